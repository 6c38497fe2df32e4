/- Clocks: slices.Insert of one alarm into an own row. | Clocks: slices.Insert of one alarm: a new row; at the end. | Clocks: slices.Insert of one alarm at the end; slices.Insert of one alarm. | Clocks: Add. -/
import Derived.Test.YtjceahbikdncmaaDoorPZ14
import Derived.Shelf.Spec.SlicesInsertGrow
namespace Go.Proofs.YtjceahbikdncmaaDoor
open Go.RowKit Go.Sort Go.Joins Go.Shelf
attribute [local go_sem] cell_grow frozen_grow size_grow Oper.semAt_some
/-- an alarm in a block -/
def AlAt (W : World) (b m : Nat) (y : Al) : Prop := W.cell? ⟨b, m * 3, none⟩ = some (.string y.1) ∧ W.cell? ⟨b, m * 3 + 1, none⟩ = some (.int .i64 y.2.1) ∧ W.cell? ⟨b, m * 3 + 2, none⟩ = some (.int .i64 y.2.2)
section
variable {W : World} {b m o i : Nat} {y : Al} {vs : List Value}
theorem AlAt.out (h : AlAt W b m y) (ho : m * 3 + 3 ≤ o ∨ o + vs.length ≤ m * 3) : AlAt (W.setCells b o vs) b m y := by
  have key : ∀ q, m * 3 ≤ q → q < m * 3 + 3 → (W.setCells b o vs).cell? ⟨b, q, none⟩ = W.cell? ⟨b, q, none⟩ := fun q h1 h2 => World.cell?_setCells_out b vs o W ⟨b, q, none⟩ (fun _ _ => by show q < o ∨ o + vs.length ≤ q; omega)
  unfold AlAt
  rw [key _ (by omega) (by omega), key _ (by omega) (by omega), key _ (by omega) (by omega)]
  exact h
theorem AlAt.inn {L : List Al} {j : Nat} (hs : ∀ q, q < L.length * 3 → (W.cell? ⟨b, o * 3 + q, none⟩).isSome = true) (hj : j < L.length) : AlAt (W.setCells b (o * 3) (alc L)) b (o + j) (L.getD j al0) := by
  have inn : ∀ q v, (alc L)[q]? = some v → (W.setCells b (o * 3) (alc L)).cell? ⟨b, o * 3 + q, none⟩ = some v := fun q v hv => by
    obtain ⟨hq, hv'⟩ := List.getElem?_eq_some_iff.1 hv
    rw [World.cell?_setCells_in b (alc L) (o * 3) W (fun q hq => hs q (by rw [alc_length] at hq; exact hq)) q hq, hv']
  obtain ⟨e0, e1, e2⟩ := alc_get L j hj
  have g0 := inn _ _ e0
  have g1 := inn _ _ e1
  have g2 := inn _ _ e2
  unfold AlAt
  rw [show (o + j) * 3 = o * 3 + j * 3 by omega]
  exact ⟨g0, g1, g2⟩
theorem alc_single (x : Al) : alc [x] = [.string x.1, .int .i64 x.2.1, .int .i64 x.2.2] := rfl
/-- the list with one more -/
def insL (P : List Al) (i : Nat) (x : Al) : List Al := P.take i ++ [x] ++ P.drop i
theorem insL_len {P : List Al} {i : Nat} {x : Al} (hi : i ≤ P.length) : (insL P i x).length = P.length + 1 := by
  unfold insL; simp; omega
theorem insL_get {P : List Al} {i j : Nat} {x : Al} (hi : i ≤ P.length) : (insL P i x).getD j al0 = if j < i then P.getD j al0 else if j = i then x else P.getD (j - 1) al0 := by
  unfold insL
  simp only [List.getD]
  by_cases h1 : j < i
  · rw [if_pos h1, List.append_assoc, List.getElem?_append_left (by simp; omega), List.getElem?_take, if_pos h1]
  · rw [if_neg h1]
    by_cases h2 : j = i
    · subst h2
      rw [if_pos rfl, List.getElem?_append_left (by simp; omega), List.getElem?_append_right (by simp; omega)]
      simp [Nat.min_eq_left hi]
    · rw [if_neg h2, List.getElem?_append_right (by simp; omega), List.getElem?_drop]
      congr 2
      simp
      omega
theorem ins_sl {P : List Al} {x : Al} (hi : i ≤ P.length) (h1 : ∀ j, j < i → AlAt W b j (P.getD j al0)) (h2 : AlAt W b i x) (h3 : ∀ j, i ≤ j → j < P.length → AlAt W b (j + 1) (P.getD j al0)) :
    SlA W (some ⟨b, 0, none⟩) (P.length + 1) (fun j => (insL P i x).getD j al0) := by
  refine .inr ⟨b, 0, rfl, fun j hj => ?_⟩
  rw [Nat.zero_add]
  show AlAt W b j _
  dsimp only
  rw [insL_get hi]
  by_cases c1 : j < i
  · rw [if_pos c1]; exact h1 j c1
  · rw [if_neg c1]
    by_cases c2 : j = i
    · rw [if_pos c2, c2]; exact h2
    · rw [if_neg c2]
      have := h3 (j - 1) (by omega) (by omega)
      rwa [show j - 1 + 1 = j by omega] at this
end
section
variable {w : World} {base g cap vb i : Nat} {P : List Al} {x : Al}
/-- what Insert gives -/
def InsPost (w : World) (base : Nat) (P : List Al) (i : Nat) (x : Al) (e : Ending) (w' : World) : Prop :=
  ∃ (a : Option Addr) (c : Nat), e = .returned (.slice a (P.length + 1) c) ∧ SlA w' a (P.length + 1) (fun j => (insL P i x).getD j al0) ∧ Below base w w'
set_option maxRecDepth 100000 in
set_option maxHeartbeats 3200000 in
theorem ins_shift (hO : w.ownsRow base 47 3 (.slice (some ⟨g, 0, none⟩) P.length cap) P.length (alc P)) (hbase : base ≤ w.heap.size) (h50 : P.length ≤ 100) (hi : i < P.length)
    (hv : w.heap[vb]? = some (.cells #[.string x.1, .int .i64 x.2.1, .int .i64 x.2.2] 47 (0, 0))) (hvb : vb ≠ g) (hroom : P.length + 1 ≤ cap) :
    Calls Tryd.prog 44 #[.slice (some ⟨g, 0, none⟩) P.length cap, .int .i64 i, .slice (some ⟨vb, 0, none⟩) 1 1] w (InsPost w base P i x) := by
  obtain ⟨i0, hi0, hz0, hz1, hz2'⟩ := info_parts info_alarm
  have hgB := (hO.lt g rfl).1
  obtain ⟨hcs, cur, hcur, hcsz⟩ : cap ≤ maxLen ∧ ∃ cur : Array Value, w.heap[g]? = some (.cells cur 47 (0, 0)) ∧ cur.size = cap * 3 := by
    rcases hO.2 with ⟨h', _⟩ | ⟨g', cap', cur, h', _, hh, hnc, hcm, hsz, _⟩
    · cases h'
    · cases h'; exact ⟨hcm, cur, hh, hsz⟩
  have hcm : cap ≤ 9223372036854775807 := by unfold maxLen at hcs; omega
  have hbl : g < w.heap.size := blk_lt hcur
  have hbv : vb < w.heap.size := blk_lt hv
  have CQ : ∀ j, j < P.length → AlAt w g j (P.getD j al0) := by
    intro j hj
    obtain ⟨q0, q1, q2⟩ := alc_get P j hj
    exact ⟨(hO.cellAt _ (by omega)).trans q0, (hO.cellAt _ (by omega)).trans q1, (hO.cellAt _ (by omega)).trans q2⟩
  have hsp : ∀ j, j < cap * 3 → (w.cell? ⟨g, j, none⟩).isSome = true := by
    intro j hj
    rw [cell_of_block hcur]
    simp [hcsz, hj]
  have hfz : ∀ j, w.frozen? ⟨g, j, none⟩ = false := fun j => unfrozen_of_block hcur j
  have hvc : ∀ j v, (alc [x])[j]? = some v → w.cell? ⟨vb, 0 + j, none⟩ = some v := by
    intro j v hj
    rw [Nat.zero_add, cell_of_block hv]
    rw [alc_single] at hj
    simpa using hj
  have hz9 : ∀ w, (sizeOf 47).run Tryd.prog w = .ok 3 w := fun w => by simp [sizeOf, typeInfo, hi0, hz1]
  have hov : ∀ lb cb, (callFunc 59 #[.slice (some ⟨vb, 0, none⟩) 1 1, .slice (some ⟨g, (i + 1) * 3, none⟩) lb cb]).run Tryd.prog w = .ok (.value (.bool false)) w := fun lb cb => by
    rw [run_callFunc_extern Tryd.func59 (by kernel_rfl) (by kernel_rfl) (by kernel_rfl) (e := Extern.SlicesOverlaps.overlaps #[22, 22] #[4]) (by kernel_rfl),
      Lib.run_overlaps_apart w 22 4 47 Tryd.underlying22 3 hz9 ⟨vb, 0, none⟩ ⟨g, (i + 1) * 3, none⟩ 1 1 lb cb hvb 47 47 3 (cap * 3) (by simp [World.shape?, hv]) (by simp [World.shape?, hcur, hcsz]) (by omega) (unfrozen_of_block hv 0) (unfrozen_of_block hv 3)]
    rfl
  have hdl : (alc (P.drop i)).length = (P.length - i) * 3 := by rw [alc_length, List.length_drop]
  have hcp1 : ∀ ty dc sc, (Builtin.copy_ #[22, 22] ty #[.slice (some ⟨g, (i + 1) * 3, none⟩) (P.length - i) dc, .slice (some ⟨g, i * 3, none⟩) (P.length + 1 - i) sc]).run Tryd.prog w.drew = .ok (goInt (Nat.min (P.length + 1 - i) (P.length - i))) (w.drew.setCells g ((i + 1) * 3) (alc (P.drop i))) := fun ty dc sc =>
    run_copy_wide w.drew _ _ ty 47 3 g ((i + 1) * 3) (P.length - i) dc ⟨g, i * 3, none⟩ (P.length + 1 - i) sc (alc (P.drop i)) Tryd.underlying22 i0 hi0 hz1
      (by rw [hdl, show Nat.min (P.length + 1 - i) (P.length - i) = P.length - i by simp only [Nat.min_def]; split <;> omega])
      (fun j v hj => by
        rw [Addr.add_lit]
        have hjl : j < (P.length - i) * 3 := by rw [← hdl]; exact (List.getElem?_eq_some_iff.1 hj).1
        rw [alc_drop _ _ (by omega), List.getElem?_drop] at hj
        exact (hO.cellAt (i * 3 + j) (by omega)).trans hj)
      (fun j hj => hsp _ (by rw [hdl] at hj; omega)) (fun j _ => hfz _) (alc_one _)
  obtain ⟨W1, hW1⟩ : ∃ W1, W1 = w.drew.setCells g ((i + 1) * 3) (alc (P.drop i)) := ⟨_, rfl⟩
  have hsp1 : ∀ k, k < cap * 3 → (W1.cell? ⟨g, k, none⟩).isSome = true := fun k hk => by
    rw [hW1]
    exact isSome_setCells g (alc (P.drop i)) ((i + 1) * 3) w.drew (fun j hj => hsp ((i + 1) * 3 + j) (by rw [hdl] at hj; omega)) k (hsp k hk)
  have hcp2 : ∀ (W : World), (∀ x, W.cell? x = W1.cell? x) → (∀ x, W.frozen? x = W1.frozen? x) → ∀ ty dc, (Builtin.copy_ #[22, 22] ty #[.slice (some ⟨g, i * 3, none⟩) (P.length + 1 - i) dc, .slice (some ⟨vb, 0, none⟩) 1 1]).run Tryd.prog W = .ok (goInt (Nat.min 1 (P.length + 1 - i))) (W.setCells g (i * 3) (alc [x])) := fun W hWc hWf ty dc =>
    run_copy_wide W _ _ ty 47 3 g (i * 3) (P.length + 1 - i) dc ⟨vb, 0, none⟩ 1 1 (alc [x]) Tryd.underlying22 i0 hi0 hz1
      (by rw [show Nat.min 1 (P.length + 1 - i) = 1 by simp only [Nat.min_def]; split <;> omega]; rfl)
      (fun j v hj => by
        rw [Addr.add_lit, hWc, hW1, World.cell?_setCells_out g _ _ _ _ (fun h _ => absurd h hvb)]
        exact hvc j v hj)
      (fun j hj => by rw [hWc]; exact hsp1 _ (by rw [alc_single] at hj; simp at hj; omega)) (fun j hj => by rw [hWf, hW1, World.frozen?_setCells]; exact hfz _) (alc_one _)
  have hbW : Below base w W1 := by rw [hW1]; exact Go.below_setCells (by omega) _ _ _ (Below.refl _ _).drew
  have hA1 : ∀ j, j < i → AlAt W1 g j (P.getD j al0) := fun j hj => by rw [hW1]; exact AlAt.out (o := (i + 1) * 3) (vs := alc (P.drop i)) (CQ j (by omega)) (.inl (by omega))
  have hA3 : ∀ j, i ≤ j → j < P.length → AlAt W1 g (j + 1) (P.getD j al0) := fun j h1 h2 => by
    rw [hW1]
    have := AlAt.inn (W := w.drew) (b := g) (o := i + 1) (L := P.drop i) (j := j - i) (fun q hq => hsp ((i + 1) * 3 + q) (by rw [List.length_drop] at hq; omega)) (by rw [List.length_drop]; omega)
    rw [getD_drop, show i + 1 + (j - i) = j + 1 by omega, show i + (j - i) = j by omega] at this
    exact this
  rw [← hW1] at hcp1
  have HSP1 := Lib.hid hsp1
  have HBW := Lib.hid hbW
  have HA1 := Lib.hid hA1
  have HA3 := Lib.hid hA3
  have hw1 : IntKind.i64.wrap ((i : Int) + 1) = (i : Int) + 1 := IntWalk.i64_in _ (by omega)
  have hw2 : IntKind.i64.wrap ((P.length : Int) + 1) = (P.length : Int) + 1 := IntWalk.i64_in _ (by omega)
  have hb1 : (0 : Int) ≤ (i : Int) + 1 := by omega
  have hin : i ≤ P.length := by omega
  have htn : ((i : Int) + 1).toNat = i + 1 := by omega
  have htn2 : ((P.length : Int) + 1).toNat = P.length + 1 := by omega
  have hb2 : ¬ (cap = i + 1) := by omega
  have hb3 : (i : Int) ≤ (P.length : Int) + 1 := by omega
  have hb4 : ¬ (cap = i) := by omega
  have hz2 : ¬ ((i : Int) = (P.length : Int)) := by omega
  clear hO hA1 hA3 hbW hsp1 hW1 hdl hz9 hvc hfz hsp CQ hcur hcsz hcs
  go_enter Tryd.func44, Tryd.ntmps44
  go_wp2_with (simp only [hov])
  go_region_law (refine step_copy_runI rfl _ _ 22 22 rfl _ _ (by simp [Act.eval, Act.put]) (by simp [Act.eval, Act.put]) (hcp1 _ _ _) ?_)
  (try simp only [Exit.inBlock, Exit.then])
  go_wp2_with (at_builtin; refine wpList_copy_runI _ rfl _ _ 22 22 rfl _ _ rfl rfl (hcp2 _ (fun _ => rfl) (fun _ => rfl) _ _) ?_)
  go_ret
  refine ⟨some ⟨g, 0, none⟩, cap, rfl, ins_sl hin (fun j hj => (HA1.out j hj).out (.inl (by omega))) ?_ (fun j h1 h2 => (HA3.out j h1 h2).out (.inr (by rw [alc_single]; simp; omega))), Go.below_setCells (by omega) _ _ _ HBW.out⟩
  have := AlAt.inn (W := W1) (b := g) (o := i) (L := [x]) (j := 0) (fun q hq => HSP1.out (i * 3 + q) (by simp at hq; omega)) (by simp)
  simpa using this
end
end Go.Proofs.YtjceahbikdncmaaDoor

namespace Go.Proofs.YtjceahbikdncmaaDoor
open Go.RowKit Go.Sort Go.Joins Go.Shelf
attribute [local go_sem] cell_grow frozen_grow size_grow Oper.semAt_some
section
variable {w : World} {base g cap vb i : Nat} {P : List Al} {x : Al}
set_option maxRecDepth 100000 in
set_option maxHeartbeats 3200000 in
theorem ins_grow (hO : w.ownsRow base 47 3 (.slice (some ⟨g, 0, none⟩) P.length cap) P.length (alc P)) (hbase : base ≤ w.heap.size) (h50 : P.length ≤ 100) (hi : i < P.length)
    (hv : w.heap[vb]? = some (.cells #[.string x.1, .int .i64 x.2.1, .int .i64 x.2.2] 47 (0, 0))) (hroom : cap < P.length + 1) :
    Calls Tryd.prog 44 #[.slice (some ⟨g, 0, none⟩) P.length cap, .int .i64 i, .slice (some ⟨vb, 0, none⟩) 1 1] w (InsPost w base P i x) := by
  obtain ⟨i0, hi0, hz0, hz1, hz2'⟩ := info_parts info_alarm
  have hcap : P.length ≤ cap := by
    rcases hO.2 with ⟨h', _⟩ | ⟨g', cap', cur, h', _, hh, hnc, hcm, hsz, _⟩
    · cases h'
    · cases h'; exact hnc
  have hbl : g < w.heap.size := (hO.lt g rfl).2
  have hbv : vb < w.heap.size := blk_lt hv
  obtain ⟨n, hn⟩ : ∃ n, P.length = n := ⟨_, rfl⟩
  have hPl : (alc P).length = n * 3 := by rw [alc_length, hn]
  have hcell : ∀ j v, (alc P)[j]? = some v → w.cell? ⟨g, j, none⟩ = some v := fun j v hj => by
    have hjl : j < n * 3 := by rw [← hPl]; exact (List.getElem?_eq_some_iff.1 hj).1
    exact (hO.cellAt j (by omega)).trans hj
  have htl : (alc (P.take i)).length = i * 3 := by rw [alc_length, List.length_take]; omega
  have hdl : (alc (P.drop i)).length = (n - i) * 3 := by rw [alc_length, List.length_drop, hn]
  have htk : ∀ j v, (alc (P.take i))[j]? = some v → (alc P)[j]? = some v := fun j v hj => by
    rw [alc_take _ _ (by omega), List.getElem?_take] at hj
    split at hj
    · exact hj
    · cases hj
  have hvc : ∀ j v, (alc [x])[j]? = some v → w.cell? ⟨vb, 0 + j, none⟩ = some v := by
    intro j v hj
    rw [Nat.zero_add, cell_of_block hv]
    rw [alc_single] at hj
    simpa using hj
  have hold : (Builtin.firstCells i0.size i (.slice (some ⟨g, 0, none⟩) i cap)).run Tryd.prog w.drew = .ok (alc (P.take i)).toArray w.drew := by
    rw [hz1]
    exact run_firstCells_some w.drew 3 i ⟨g, 0, none⟩ i cap (alc (P.take i)) (by rw [htl]) (fun j v hj => by
      rw [Addr.add_lit, Nat.zero_add]
      exact hcell j v (htk j v hj))
  have hik : i + (n + 1 - i) = n + 1 := by omega
  have hkk : (n : Int) + 1 - (i : Int) = ((n + 1 - i : Nat) : Int) := by omega
  rw [hn] at hroom hcap
  have hrz : ∀ ty, (Builtin.append_ #[22, 3] ty #[.slice (some ⟨g, 0, none⟩) i cap, .int .i64 ((n : Int) + 1 - (i : Int))]).run Tryd.prog w =
      .ok (.slice (some ⟨w.heap.size, 0, none⟩) (n + 1) (grownCap w (n + 1) cap 47)) (w.drew.alloc (.cells ((alc (P.take i)).toArray ++ Builtin.zeroCells (Value.agg #[.string ⟨#[]⟩, .int .i64 0, .int .i64 0]).cells (n + 1 - i) ++ Builtin.zeroCells (Value.agg #[.string ⟨#[]⟩, .int .i64 0, .int .i64 0]).cells (grownCap w (n + 1) cap 47 - (n + 1))) 47)) := fun ty => by
    have h := Lib.run_append_grow_zeros w 22 3 ty 47 i0 _ .i64 .i64 Tryd.underlying22 Tryd.underlying3 hi0 hz0 (some ⟨g, 0, none⟩) i cap (alc (P.take i)) hold (n + 1 - i) (by omega) (by omega) (by omega) (by omega) (by rw [hz2']; omega) (by rw [hz2', hik]; exact growslice_fits hroom (by omega))
    rw [hik] at h
    rw [hkk]
    exact h
  obtain ⟨G, hG⟩ : ∃ G, G = grownCap w (n + 1) cap 47 := ⟨_, rfl⟩
  obtain ⟨ROW, hROW⟩ : ∃ ROW : Array Value, ROW = (alc (P.take i)).toArray ++ Builtin.zeroCells (Value.agg #[.string ⟨#[]⟩, .int .i64 0, .int .i64 0]).cells (n + 1 - i) ++ Builtin.zeroCells (Value.agg #[.string ⟨#[]⟩, .int .i64 0, .int .i64 0]).cells (G - (n + 1)) := ⟨_, rfl⟩
  rw [← hG] at hrz
  rw [← hROW] at hrz
  have hRl : (n + 1) * 3 ≤ ROW.size := by
    rw [hROW, Array.size_append, Array.size_append, List.size_toArray, htl]
    simp [Builtin.zeroCells, Value.cells]
    omega
  have hRg : ∀ j v, (alc (P.take i))[j]? = some v → ROW[j]? = some v := fun j v hj => by
    have hjl := (List.getElem?_eq_some_iff.1 hj).1
    rw [hROW, Array.getElem?_append_left (by rw [Array.size_append, List.size_toArray]; omega), Array.getElem?_append_left (by rw [List.size_toArray]; exact hjl), List.getElem?_toArray]
    exact hj
  obtain ⟨N, hN⟩ : ∃ N, N = w.heap.size := ⟨_, rfl⟩
  rw [← hN] at hrz hbl hbv hbase
  obtain ⟨W1, hW1⟩ : ∃ W1, W1 = w.drew.alloc (.cells ROW 47) := ⟨_, rfl⟩
  rw [← hW1] at hrz
  have hNr : ∀ j, W1.cell? ⟨N, j, none⟩ = ROW[j]? := fun j => by rw [hW1, World.cell?_alloc_at (w := w.drew) ROW _ N j hN]
  have hNs : ∀ j, j < (n + 1) * 3 → (W1.cell? ⟨N, j, none⟩).isSome = true := fun j hj => by
    rw [hNr, Array.getElem?_eq_getElem (by omega)]; rfl
  have hNf : ∀ j, W1.frozen? ⟨N, j, none⟩ = false := fun j => by rw [hW1]; exact World.frozen?_alloc_at (w := w.drew) ROW _ N j hN
  have hOb : ∀ j v, w.cell? ⟨g, j, none⟩ = some v → W1.cell? ⟨g, j, none⟩ = some v := fun j v h => by rw [hW1, World.cell?_alloc_past (w := w.drew) _ g j (by show g < w.heap.size; omega)]; exact h
  have hOv : ∀ j v, w.cell? ⟨vb, j, none⟩ = some v → W1.cell? ⟨vb, j, none⟩ = some v := fun j v h => by rw [hW1, World.cell?_alloc_past (w := w.drew) _ vb j (by show vb < w.heap.size; omega)]; exact h
  have hcpA : ∀ (W : World), (∀ x, W.cell? x = W1.cell? x) → (∀ x, W.frozen? x = W1.frozen? x) → ∀ ty dc, (Builtin.copy_ #[22, 22] ty #[.slice (some ⟨N, i * 3, none⟩) (n + 1 - i) dc, .slice (some ⟨vb, 0, none⟩) 1 1]).run Tryd.prog W = .ok (goInt (Nat.min 1 (n + 1 - i))) (W.setCells N (i * 3) (alc [x])) := fun W hWc hWf ty dc =>
    run_copy_wide W _ _ ty 47 3 N (i * 3) (n + 1 - i) dc ⟨vb, 0, none⟩ 1 1 (alc [x]) Tryd.underlying22 i0 hi0 hz1
      (by rw [show Nat.min 1 (n + 1 - i) = 1 by simp only [Nat.min_def]; split <;> omega]; rfl)
      (fun j v hj => by rw [Addr.add_lit, hWc]; exact hOv _ v (hvc j v hj))
      (fun j hj => by rw [hWc]; exact hNs _ (by rw [alc_single] at hj; simp at hj; omega)) (fun j _ => by rw [hWf]; exact hNf _) (alc_one _)
  have hNs2 : ∀ j, j < (n + 1) * 3 → ((W1.setCells N (i * 3) (alc [x])).cell? ⟨N, j, none⟩).isSome = true := fun j hj =>
    isSome_setCells N (alc [x]) (i * 3) W1 (fun q hq => hNs (i * 3 + q) (by rw [alc_single] at hq; simp at hq; omega)) j (hNs j hj)
  have hgN : g ≠ N := by omega
  have hcpB : ∀ (W : World), (∀ y, W.cell? y = (W1.setCells N (i * 3) (alc [x])).cell? y) → (∀ y, W.frozen? y = (W1.setCells N (i * 3) (alc [x])).frozen? y) → ∀ ty dc sc, (Builtin.copy_ #[22, 22] ty #[.slice (some ⟨N, (i + 1) * 3, none⟩) (n - i) dc, .slice (some ⟨g, i * 3, none⟩) (n - i) sc]).run Tryd.prog W = .ok (goInt (Nat.min (n - i) (n - i))) (W.setCells N ((i + 1) * 3) (alc (P.drop i))) := fun W hWc hWf ty dc sc =>
    run_copy_wide W _ _ ty 47 3 N ((i + 1) * 3) (n - i) dc ⟨g, i * 3, none⟩ (n - i) sc (alc (P.drop i)) Tryd.underlying22 i0 hi0 hz1
      (by rw [hdl, show Nat.min (n - i) (n - i) = n - i by simp only [Nat.min_def]; split <;> omega])
      (fun j v hj => by
        rw [Addr.add_lit, hWc, World.cell?_setCells_out N _ _ _ _ (fun h _ => absurd h hgN)]
        rw [alc_drop _ _ (by omega), List.getElem?_drop] at hj
        exact hOb _ v (hcell _ v hj))
      (fun j hj => by rw [hWc]; exact hNs2 _ (by rw [hdl] at hj; omega))
      (fun j _ => by rw [hWf, World.frozen?_setCells]; exact hNf _) (alc_one _)
  have hGn : n + 1 ≤ G := by rw [hG]; exact grownCap_ge w _ _ _
  have hG63 : G ≤ 9223372036854775807 := by
    have := grownCap_le_maxLen w (n + 1) cap 47 (by unfold maxLen; omega)
    rw [← hG] at this
    unfold maxLen at this
    omega
  have hA1 : ∀ j, j < i → AlAt W1 N j (P.getD j al0) := fun j hj => by
    obtain ⟨e0, e1, e2⟩ := alc_get (P.take i) j (by rw [List.length_take]; omega)
    have ht : (P.take i).getD j al0 = P.getD j al0 := by simp only [List.getD]; rw [List.getElem?_take, if_pos hj]
    rw [ht] at e0 e1 e2
    exact ⟨(hNr _).trans (hRg _ _ e0), (hNr _).trans (hRg _ _ e1), (hNr _).trans (hRg _ _ e2)⟩
  have hbW : Below base w W1 := by rw [hW1]; exact (Below.refl _ w).drew.alloc (show base ≤ w.heap.size by omega) _
  have hX : AlAt (W1.setCells N (i * 3) (alc [x])) N i x := by
    have := AlAt.inn (W := W1) (b := N) (o := i) (L := [x]) (j := 0) (fun q hq => hNs (i * 3 + q) (by simp at hq; omega)) (by simp)
    simpa using this
  -- the new row, behind all
  have hfin : ∀ (W : World), (∀ y, W.cell? y = (W1.setCells N (i * 3) (alc [x])).cell? y) → SlA (W.setCells N ((i + 1) * 3) (alc (P.drop i))) (some ⟨N, 0, none⟩) (n + 1) (fun j => (insL P i x).getD j al0) := fun W hWc => by
    have hat : ∀ m y, AlAt (W1.setCells N (i * 3) (alc [x])) N m y → AlAt W N m y := fun m y h => by
      unfold AlAt at h ⊢
      rw [hWc, hWc, hWc]; exact h
    rw [← hn]
    refine ins_sl (by omega) (fun j hj => AlAt.out (o := (i + 1) * 3) (hat _ _ (AlAt.out (o := i * 3) (hA1 j hj) (.inl (by omega)))) (.inl (by omega))) (AlAt.out (o := (i + 1) * 3) (hat _ _ hX) (.inl (by omega))) (fun j h1 h2 => ?_)
    have := AlAt.inn (W := W) (b := N) (o := i + 1) (L := P.drop i) (j := j - i) (fun q hq => by rw [hWc]; exact hNs2 ((i + 1) * 3 + q) (by rw [List.length_drop] at hq; omega)) (by rw [List.length_drop]; omega)
    rw [getD_drop, show i + 1 + (j - i) = j + 1 by omega, show i + (j - i) = j by omega] at this
    exact this
  have HFIN := Lib.hid hfin
  have HBW := Lib.hid hbW
  have HNB := Lib.hid hbase
  have hGi : ¬ (G = i) := by omega
  have hGim : ¬ (G = i + 1) := by omega
  have hci : ¬ (cap = i) := by omega
  have hz2 : ¬ ((i : Int) = (n : Int)) := by omega
  have hz3 : (cap : Int) < (n : Int) + 1 := by omega
  have hw1 : IntKind.i64.wrap ((i : Int) + 1) = (i : Int) + 1 := IntWalk.i64_in _ (by omega)
  have hw2 : IntKind.i64.wrap ((n : Int) + 1) = (n : Int) + 1 := IntWalk.i64_in _ (by omega)
  have hw3 : IntKind.i64.wrap ((n : Int) + 1 - (i : Int)) = (n : Int) + 1 - (i : Int) := IntWalk.i64_in _ (by omega)
  have hb1 : (0 : Int) ≤ (i : Int) + 1 := by omega
  have hin : i ≤ n := by omega
  have htn : ((i : Int) + 1).toNat = i + 1 := by omega
  have hb3 : (i : Int) ≤ (n : Int) := by omega
  clear hO hkk hik hold hG hRl hROW hRg hNr hNs hNf hOb hOv hvc hcell htk htl hdl hPl hA1 hX hfin hbW hv hNs2 hbase
  show Calls Tryd.prog 44 #[.slice (some ⟨g, 0, none⟩) P.length cap, .int .i64 i, .slice (some ⟨vb, 0, none⟩) 1 1] w fun e w' => ∃ (a : Option Addr) (c : Nat), e = .returned (.slice a (P.length + 1) c) ∧ SlA w' a (P.length + 1) (fun j => (insL P i x).getD j al0) ∧ Below base w w'
  rw [hn]
  clear hn hN hW1
  go_enter Tryd.func44, Tryd.ntmps44
  go_wp2_with (first
    | (at_builtin; refine Lib.wpList_append_run _ rfl _ _ _ _ rfl _ _ rfl rfl _ _ (hrz _) ?_)
    | (at_builtin; refine wpList_copy_runI _ rfl _ _ 22 22 rfl _ _ rfl rfl (hcpA _ (fun _ => rfl) (fun _ => rfl) _ _) ?_))
  go_region_law (refine step_copy_runI rfl _ _ 22 22 rfl (.slice (some ⟨N, (i + 1) * 3, none⟩) (n - i) (G - (i + 1))) (.slice (some ⟨g, i * 3, none⟩) (n - i) (cap - i)) (by simp [Act.eval, Act.put]) (by simp [Act.eval, Act.put]) (hcpB (W1.setCells N (i * 3) (alc [x])).drew (fun _ => rfl) (fun _ => rfl) 3 (G - (i + 1)) (cap - i)) ?_)
  (try simp only [Exit.inBlock, Exit.then])
  go_wp2
  go_ret
  refine ⟨some ⟨N, 0, none⟩, G, rfl, HFIN.out _ (fun _ => rfl), Go.below_setCells HNB.out _ _ _ ?_⟩
  exact (Go.below_setCells HNB.out _ _ _ HBW.out).drew
end
end Go.Proofs.YtjceahbikdncmaaDoor

namespace Go.Proofs.YtjceahbikdncmaaDoor
open Go.RowKit Go.Sort Go.Joins Go.Shelf
attribute [local go_sem] cell_grow frozen_grow size_grow Oper.semAt_some
section
variable {w : World} {base vc vb i : Nat} {va : Option Addr} {P : List Al} {x : Al}
theorem insL_end (P : List Al) (x : Al) : insL P P.length x = P ++ [x] := by unfold insL; simp
set_option maxRecDepth 100000 in
set_option maxHeartbeats 3200000 in
theorem ins_nil (hbase : base ≤ w.heap.size) (hv : w.heap[vb]? = some (.cells #[.string x.1, .int .i64 x.2.1, .int .i64 x.2.2] 47 (0, 0))) :
    Calls Tryd.prog 44 #[.slice none 0 0, .int .i64 0, .slice (some ⟨vb, 0, none⟩) 1 1] w (InsPost w base [] 0 x) := by
  obtain ⟨i0, hi0, hz0, hz1, hz2'⟩ := info_parts info_alarm
  have hbv : vb < w.heap.size := blk_lt hv
  have HO := Lib.hid (World.ownsRow_nil w base 47 3)
  have HE := Lib.hid (insL_end [] x)
  have HLN : Hid (([] ++ [x]).length = 1) := Lib.hid rfl
  have q0 : w.cell? ⟨vb, 0, none⟩ = some (.string x.1) := by rw [cell_of_block hv]; rfl
  have q1 : w.cell? ⟨vb, 1, none⟩ = some (.int .i64 x.2.1) := by rw [cell_of_block hv]; rfl
  have q2 : w.cell? ⟨vb, 2, none⟩ = some (.int .i64 x.2.2) := by rw [cell_of_block hv]; rfl
  obtain ⟨nm, t, pp⟩ := x
  dsimp only at q0 q1 q2
  clear hv
  go_enter Tryd.func44, Tryd.ntmps44
  go_wp2_with (at_builtin
               refine wpList_append_own _ rfl (.tmp 23) (.tmp 24) 22 rfl base 47 i0 (.agg #[.string ⟨#[]⟩, .int .i64 0, .int .i64 0]) 3 32 Tryd.underlying22 hi0 hz0 hz1 hz2' rfl (by decide) _ _ _ rfl HO.out ⟨vb, 0, none⟩ 1 1 [.string nm, .int .i64 t, .int .i64 pp] rfl rfl ?c1 ?c2 ?c3 ?c4 ?c5 ?_
               case c1 => intro j q hq; match j with | 0 => (simp at hq; subst hq; simp [go_sem, q0]) | 1 => (simp at hq; subst hq; simp [go_sem, q1]) | 2 => (simp at hq; subst hq; simp [go_sem, q2]) | j + 3 => simp at hq
               case c2 => intro q hq; simp at hq; rcases hq with rfl | rfl | rfl <;> rfl
               case c3 => unfold maxLen; omega
               case c4 => omega
               case c5 => first | omega | (simp; omega)
               intro v2 w2 hown2 hg2 _
               have HB2 : Hid (Below base w w2) := Lib.hid ((Below.refl _ w).grown hg2 hbase (by intro r hr; exact (HO.out.lt r hr).1))
               have HO2 : Hid (w2.ownsRow base 47 3 v2 (1) (alc ([] ++ [(nm, t, pp)]))) := Lib.hid (by rw [alc_snoc]; exact hown2)
               clear hown2 hg2)
  go_ret
  obtain ⟨va', vc', hv2⟩ := own_slice' HO2.out
  have h := HO2.out
  rw [hv2] at h
  refine ⟨va', vc', hv2 ▸ rfl, ?_, HB2.out⟩
  exact SlA.of_own (L := [(nm, t, pp)]) h
set_option maxRecDepth 100000 in
set_option maxHeartbeats 3200000 in
theorem ins_end (hO : w.ownsRow base 47 3 (.slice va P.length vc) P.length (alc P)) (hbase : base ≤ w.heap.size) (h50 : P.length ≤ 100)
    (hv : w.heap[vb]? = some (.cells #[.string x.1, .int .i64 x.2.1, .int .i64 x.2.2] 47 (0, 0))) :
    Calls Tryd.prog 44 #[.slice va P.length vc, .int .i64 P.length, .slice (some ⟨vb, 0, none⟩) 1 1] w (InsPost w base P P.length x) := by
  obtain ⟨i0, hi0, hz0, hz1, hz2'⟩ := info_parts info_alarm
  have hbv : vb < w.heap.size := blk_lt hv
  have hva : (va = none ∧ vc = 0 ∧ P = []) ∨ ((∃ g, va = some ⟨g, 0, none⟩) ∧ vc = P.length) ∨ ((∃ g, va = some ⟨g, 0, none⟩) ∧ vc ≠ P.length) := by
    rcases hO.2 with ⟨h', h0⟩ | ⟨g', cap', cur, h', _⟩
    · injection h' with h1 _ h3
      exact .inl ⟨h1, h3, List.length_eq_zero_iff.1 h0⟩
    · injection h' with h1 _ _
      by_cases h : vc = P.length
      · exact .inr (.inl ⟨⟨g', h1⟩, h⟩)
      · exact .inr (.inr ⟨⟨g', h1⟩, h⟩)
  have hcap : P.length ≤ vc := by
    rcases hO.2 with ⟨h', h0⟩ | ⟨g', cap', cur, h', _, hh, hnc, hcm, hsz, _⟩
    · omega
    · injection h' with _ _ h3; omega
  have HO := Lib.hid hO
  have HE := Lib.hid (insL_end P x)
  have HLN : Hid ((P ++ [x]).length = P.length + 1) := Lib.hid (by simp)
  rcases hva with ⟨rfl, rfl, rfl⟩ | hva
  · exact ins_nil hbase hv
  have q0 : w.cell? ⟨vb, 0, none⟩ = some (.string x.1) := by rw [cell_of_block hv]; rfl
  have q1 : w.cell? ⟨vb, 1, none⟩ = some (.int .i64 x.2.1) := by rw [cell_of_block hv]; rfl
  have q2 : w.cell? ⟨vb, 2, none⟩ = some (.int .i64 x.2.2) := by rw [cell_of_block hv]; rfl
  obtain ⟨nm, t, pp⟩ := x
  dsimp only at q0 q1 q2
  clear hO hv
  rcases hva with ⟨⟨g, rfl⟩, rfl⟩ | ⟨⟨g, rfl⟩, hvc⟩
  all_goals
    go_enter Tryd.func44, Tryd.ntmps44
    go_wp2_with (at_builtin
                 refine wpList_append_own _ rfl (.tmp 23) (.tmp 24) 22 rfl base 47 i0 (.agg #[.string ⟨#[]⟩, .int .i64 0, .int .i64 0]) 3 32 Tryd.underlying22 hi0 hz0 hz1 hz2' rfl (by decide) _ _ _ rfl HO.out ⟨vb, 0, none⟩ 1 1 [.string nm, .int .i64 t, .int .i64 pp] rfl rfl ?c1 ?c2 ?c3 ?c4 ?c5 ?_
                 case c1 => intro j q hq; match j with | 0 => (simp at hq; subst hq; simp [go_sem, q0]) | 1 => (simp at hq; subst hq; simp [go_sem, q1]) | 2 => (simp at hq; subst hq; simp [go_sem, q2]) | j + 3 => simp at hq
                 case c2 => intro q hq; simp at hq; rcases hq with rfl | rfl | rfl <;> rfl
                 case c3 => unfold maxLen; omega
                 case c4 => omega
                 case c5 => first | omega | (simp; omega)
                 intro v2 w2 hown2 hg2 _
                 have HB2 : Hid (Below base w w2) := Lib.hid ((Below.refl _ w).grown hg2 hbase (by intro r hr; exact (HO.out.lt r hr).1))
                 have HO2 : Hid (w2.ownsRow base 47 3 v2 (P.length + 1) (alc (P ++ [(nm, t, pp)]))) := Lib.hid (by rw [alc_snoc]; exact hown2)
                 clear hown2 hg2)
    go_ret
    obtain ⟨va', vc', hv2⟩ := own_slice' HO2.out
    have h := HO2.out
    rw [hv2] at h
    refine ⟨va', vc', hv2 ▸ rfl, ?_, HB2.out⟩
    rw [HE.out, ← HLN.out]
    exact SlA.of_own (L := P ++ [(nm, t, pp)]) (by rw [HLN.out]; exact h)
theorem insA_ok (hO : w.ownsRow base 47 3 (.slice va P.length vc) P.length (alc P)) (hbase : base ≤ w.heap.size) (h50 : P.length ≤ 100) (hi : i ≤ P.length)
    (hv : w.heap[vb]? = some (.cells #[.string x.1, .int .i64 x.2.1, .int .i64 x.2.2] 47 (0, 0))) (hne : ∀ g, va = some ⟨g, 0, none⟩ → vb ≠ g) :
    Calls Tryd.prog 44 #[.slice va P.length vc, .int .i64 i, .slice (some ⟨vb, 0, none⟩) 1 1] w (InsPost w base P i x) := by
  by_cases hend : i = P.length
  · subst hend
    exact ins_end hO hbase h50 hv
  · obtain ⟨g, cap, hva⟩ := ownsRow_form hO (by omega)
    injection hva with h1 _ h3
    subst h1
    subst h3
    by_cases hroom : P.length + 1 ≤ vc
    · exact ins_shift hO hbase h50 (by omega) hv (hne g rfl) hroom
    · exact ins_grow hO hbase h50 (by omega) hv (by omega)
end
end Go.Proofs.YtjceahbikdncmaaDoor

namespace Go.Proofs.YtjceahbikdncmaaDoor
open Go.RowKit Go.Sort Go.Joins Go.Shelf
attribute [local go_sem] cell_grow frozen_grow size_grow Oper.semAt_some
theorem AB.new {w : World} {a : Option Addr} {n c : Nat} {x : Al} : AB w a n c x (((w.alloc (.cells #[.slice a n c] 24)).alloc (.cells #[.string x.1, .int .i64 x.2.1, .int .i64 x.2.2] 47)).alloc (.cells #[.slice none 0 0] 24)) := by
  refine ⟨(((Below.refl _ w).alloc (Nat.le_refl _) _).alloc (by simp) _).alloc (by simp; omega) _, ?_, ?_, ?_⟩
  · exact (Below.heap_alloc _ _ _ (by simp; omega)).trans ((Below.heap_alloc _ _ _ (by simp)).trans (heap_alloc_new w _))
  · have := heap_alloc_new (w.alloc (.cells #[.slice a n c] 24)) (.cells #[.string x.1, .int .i64 x.2.1, .int .i64 x.2.2] 47)
    rw [World.size_alloc] at this
    exact (Below.heap_alloc _ _ _ (by simp)).trans this
  · have := heap_alloc_new ((w.alloc (.cells #[.slice a n c] 24)).alloc (.cells #[.string x.1, .int .i64 x.2.1, .int .i64 x.2.2] 47)) (.cells #[.slice none 0 0] 24)
    rw [World.size_alloc, World.size_alloc] at this
    exact this
section
variable {w : World} {a : Option Addr} {n c : Nat} {R : Nat → Al}
set_option maxRecDepth 100000 in
set_option maxHeartbeats 3200000 in
theorem add_bad (hS : SlA w a n R) (hn : n ≤ 9223372036854775807) (hR : ∀ j, j < n → AlB (R j)) (x : Al) (hE : cE n R ≠ 0) :
    Calls Tryd.prog 27 #[pV a n c, aV x] w (AddPost w n R x) := by
  have hab := AB.new (w := w) (a := a) (n := n) (c := c) (x := x)
  have HAB := Lib.hid hab
  have HC := Lib.hid (check_ok (c := c) (hS.below hab.k) hn hR)
  have hae : addE n R x = cE n R := if_pos hE
  obtain ⟨p, hp⟩ : ∃ p, cE n R = p := ⟨_, rfl⟩
  rw [hp] at HC hE hae
  have d0 := bne0_true hE
  have HE := Lib.hid hE
  have HAE := Lib.hid hae
  clear hS hR hab hp hE hae
  obtain ⟨nm, t, pp⟩ := x
  go_enter Tryd.func27, Tryd.ntmps27
  go_wp2_with fail
  refine HC.out.mono ?_
  rintro e w1 ⟨rfl, b1⟩
  have HB1 := Lib.hid (HAB.out.below b1)
  have k5 := HB1.out.co
  have f5 := HB1.out.fo
  have l5 := HB1.out.lo
  clear b1
  go_wp2
  exact bodyPost_ret (v := .tuple #[pV none 0 0, .int .i64 p]) (by simp [results, Tryd.results27, go_sem, k5, f5]) rfl (AddPost.bad HAE.out HE.out (HB1.out.k.setCell (p := ⟨w.heap.size + 1 + 1, 0, none⟩) (by dsimp only; omega) _))
set_option maxRecDepth 100000 in
set_option maxHeartbeats 3200000 in
theorem add_alarm (hS : SlA w a n R) (hn : n ≤ 9223372036854775807) (hR : ∀ j, j < n → AlB (R j)) (x : Al) (hx : x.1.size ≤ 9223372036854775807) (h0 : cE n R = 0) (hE : alE x ≠ 0) :
    Calls Tryd.prog 27 #[pV a n c, aV x] w (AddPost w n R x) := by
  have hab := AB.new (w := w) (a := a) (n := n) (c := c) (x := x)
  have HAB := Lib.hid hab
  have HC := Lib.hid (check_ok (c := c) (hS.below hab.k) hn hR)
  have HX := Lib.hid (checkAlarm_ok x hx)
  have hae : addE n R x = alE x := by unfold addE; rw [if_neg (by simpa using h0), if_pos hE]
  obtain ⟨p, hp⟩ : ∃ p, alE x = p := ⟨_, rfl⟩
  rw [hp] at HX hE hae
  rw [h0] at HC
  have d0 := bne0_true hE
  have HE := Lib.hid hE
  have HAE := Lib.hid hae
  clear hS hR hab hp hE hae h0
  obtain ⟨nm, t, pp⟩ := x
  go_enter Tryd.func27, Tryd.ntmps27
  go_wp2_with fail
  refine HC.out.mono ?_
  rintro e w0 ⟨rfl, b0⟩
  have HB0 := Lib.hid (HAB.out.below b0)
  have q0 := HB0.out.c0
  have q1 := HB0.out.c1
  have q2 := HB0.out.c2
  dsimp only at q0 q1 q2
  clear b0
  go_wp2_with fail
  refine (HX.out _).mono ?_
  clear q0 q1 q2
  rintro e w1 ⟨rfl, b1⟩
  have HB1 := Lib.hid (HB0.out.below b1)
  have k5 := HB1.out.co
  have f5 := HB1.out.fo
  have l5 := HB1.out.lo
  clear b1
  go_wp2
  exact bodyPost_ret (v := .tuple #[pV none 0 0, .int .i64 p]) (by simp [results, Tryd.results27, go_sem, k5, f5]) rfl (AddPost.bad HAE.out HE.out (HB1.out.k.setCell (p := ⟨w.heap.size + 1 + 1, 0, none⟩) (by dsimp only; omega) _))
set_option maxRecDepth 100000 in
set_option maxHeartbeats 3200000 in
theorem add_full (hS : SlA w a n R) (hn : n ≤ 9223372036854775807) (hR : ∀ j, j < n → AlB (R j)) (x : Al) (hx : x.1.size ≤ 9223372036854775807) (h0 : cE n R = 0) (hA : alE x = 0) (hE : addE n R x ≠ 0) :
    Calls Tryd.prog 27 #[pV a n c, aV x] w (AddPost w n R x) := by
  have hab := AB.new (w := w) (a := a) (n := n) (c := c) (x := x)
  have HAB := Lib.hid hab
  have HC := Lib.hid (check_ok (c := c) (hS.below hab.k) hn hR)
  have HX := Lib.hid (checkAlarm_ok x hx)
  have HS := Lib.hid hS
  have hP := cE_zero h0
  have HP := Lib.hid hP
  have hn50 := hP.n50
  rw [h0] at HC
  rw [hA] at HX
  have hae : addE n R x = if lowI n R x.1 < n ∧ (R (lowI n R x.1)).1 = x.1 then 8 else if n = 50 then 5 else 0 := by
    unfold addE; rw [if_neg (by simpa using h0), if_neg (by simpa using hA)]
  have hw : (Hid ((decide (lowI n R x.1 < n) && decide ((R (lowI n R x.1)).1 = x.1)) = true) ∧ Hid (addE n R x = 8)) ∨ (Hid ((decide (lowI n R x.1 < n) && decide ((R (lowI n R x.1)).1 = x.1)) = false) ∧ Hid (addE n R x = 5) ∧ Hid (n = 50)) := by
    by_cases hf : lowI n R x.1 < n ∧ (R (lowI n R x.1)).1 = x.1
    · rw [if_pos hf] at hae
      exact .inl ⟨Lib.hid (by rw [decide_eq_true hf.1, decide_eq_true hf.2]; rfl), Lib.hid hae⟩
    · rw [if_neg hf] at hae
      by_cases h5 : n = 50
      · rw [if_pos h5] at hae
        refine .inr ⟨Lib.hid ?_, Lib.hid hae, Lib.hid h5⟩
        by_cases h1 : lowI n R x.1 < n
        · rw [decide_eq_false (fun h2 => hf ⟨h1, h2⟩), Bool.and_false]
        · rw [decide_eq_false h1, Bool.false_and]
      · rw [if_neg h5] at hae; exact absurd hae hE
  clear hS hR hab hE hae h0 hA hP
  obtain ⟨nm, t, pp⟩ := x
  dsimp only at hw
  go_enter Tryd.func27, Tryd.ntmps27
  go_wp2_with fail
  refine HC.out.mono ?_
  rintro e w0 ⟨rfl, b0⟩
  have HB0 := Lib.hid (HAB.out.below b0)
  have q0 := HB0.out.c0
  have q1 := HB0.out.c1
  have q2 := HB0.out.c2
  dsimp only at q0 q1 q2
  clear b0
  go_wp2_with fail
  refine (HX.out _).mono ?_
  clear q0 q1 q2
  rintro e w1 ⟨rfl, b1⟩
  have HB1 := Lib.hid (HB0.out.below b1)
  have HF := Lib.hid (find_ok (c := c) (HS.out.below HB1.out.k) HP.out nm)
  have k0 := HB1.out.cp
  have q0 := HB1.out.c0
  dsimp only at q0
  clear b1
  rcases hw with ⟨HQ, HAE⟩ | ⟨HQ, HAE, H5⟩
  · rw [HQ.out] at HF
    go_wp2_with fail
    refine HF.out.mono ?_
    clear k0 q0
    rintro e w2 ⟨rfl, b2⟩
    have HB2 := Lib.hid (HB1.out.below b2)
    have k5 := HB2.out.co
    have f5 := HB2.out.fo
    have l5 := HB2.out.lo
    clear b2
    go_wp2
    exact bodyPost_ret (v := .tuple #[pV none 0 0, .int .i64 8]) (by simp [results, Tryd.results27, go_sem, k5, f5]) rfl (AddPost.bad HAE.out (by decide) (HB2.out.k.setCell (p := ⟨w.heap.size + 1 + 1, 0, none⟩) (by dsimp only; omega) _))
  · rw [HQ.out] at HF
    go_wp2_with fail
    refine HF.out.mono ?_
    clear k0 q0
    rintro e w2 ⟨rfl, b2⟩
    have HB2 := Lib.hid (HB1.out.below b2)
    have k5 := HB2.out.co
    have f5 := HB2.out.fo
    have l5 := HB2.out.lo
    have k0 := HB2.out.cp
    have d5 : ((n : Int) == 50) = true := by have := H5.out; simp; omega
    clear b2
    go_wp2
    exact bodyPost_ret (v := .tuple #[pV none 0 0, .int .i64 5]) (by simp [results, Tryd.results27, go_sem, k5, f5]) rfl (AddPost.bad HAE.out (by decide) (HB2.out.k.setCell (p := ⟨w.heap.size + 1 + 1, 0, none⟩) (by dsimp only; omega) _))
end
end Go.Proofs.YtjceahbikdncmaaDoor
