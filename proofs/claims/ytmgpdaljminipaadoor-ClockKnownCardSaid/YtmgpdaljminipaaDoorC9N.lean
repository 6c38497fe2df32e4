/- Clocks: Next. -/
import Derived.Test.YtmgpdaljminipaaDoorC9R
import Derived.StillTailTactics
import Derived.Deep.Cut
namespace Go.Proofs.YtmgpdaljminipaaDoor
open Go.RowKit Go.Sort Go.Joins Go.Shelf
attribute [local go_sem] cell_grow frozen_grow size_grow Oper.semAt_some

/-- what the loop of Next keeps: z: the box of the iterator -/
structure NI (w : World) (a : Option Addr) (n c : Nat) (z : Nat) (pre : List (Int × Nat)) (W : World) : Prop where
  k : Below w.heap.size w W
  b2 : W.heap[w.heap.size + 1]? = some (.cells #[.string ⟨#[]⟩, .int .i64 0] 39 (0, 0))
  b3 : W.heap[w.heap.size + 1 + 1]? = some (.cells #[.int .i64 0] 23 (0, 0))
  p : BoxA W z a n c
  z3 : w.heap.size + 3 ≤ z
  e : pre = []
/-- what it leaves when it has found a ring -/
structure NX (w : World) (n : Nat) (R : Nat → Al) (z : Nat) (x : Int × Nat) (W : World) : Prop where
  k : Below w.heap.size w W
  b2 : W.heap[w.heap.size + 1]? = some (.cells #[.string (rgN R x).1, .int .i64 (rgN R x).2] 39 (0, 0))
  b3 : W.heap[w.heap.size + 1 + 1]? = some (.cells #[.int .i64 0] 23 (0, 0))
  z3 : w.heap.size + 3 ≤ z
section
variable {w : World} {a : Option Addr} {n c z : Nat} {R : Nat → Al} {pre : List (Int × Nat)} {x : Int × Nat} {W W' : World}
theorem NI.from (h : NI w a n c z pre W) (hb : Below (z + 1) W W') : NI w a n c z pre W' := by
  have := h.z3
  exact ⟨h.k.trans (hb.mono (by omega)), (hb.block _ (by omega)).trans h.b2, (hb.block _ (by omega)).trans h.b3, (hb.block _ (by omega)).trans h.p, h.z3, h.e⟩
theorem NI.below (h : NI w a n c z pre W) (hb : Below W.heap.size W W') : NI w a n c z pre W' :=
  ⟨below_tr h.k hb, (hb.block _ (blk_lt h.b2)).trans h.b2, (hb.block _ (blk_lt h.b3)).trans h.b3, (hb.block _ (blk_lt h.p)).trans h.p, h.z3, h.e⟩
theorem NI.own : OwnFrom (z + 1) (NI w a n c z) := by
  intro pre W W' row h hg hr
  have := h.z3
  exact ⟨h.k.grown hg h.k.size (fun r e => by have := (hr r e).1; omega), blk_kept h.b2 hg (fun r e => (hr r e).2), blk_kept h.b3 hg (fun r e => (hr r e).2), blk_kept h.p hg (fun r e => (hr r e).2), h.z3, h.e⟩
theorem NX.own : OwnFrom (z + 1) (fun (_ : Unit) W => NX w n R z x W) := by
  intro _ W W' row h hg hr
  have := h.z3
  exact ⟨h.k.grown hg h.k.size (fun r e => by have := (hr r e).1; omega), blk_kept h.b2 hg (fun r e => (hr r e).2), blk_kept h.b3 hg (fun r e => (hr r e).2), h.z3⟩
/-- the first ring of a run is the ring that comes next -/
theorem GR.first (hP : PlOk n R) {u : Int} (hu : u ≤ MT) (h : GR n R [] x) {y : Int × Nat} {L : List (Int × Nat)} (hL : RunOk n R u (y :: L)) : y = x := by
  obtain ⟨c, h1, h2, h3⟩ := h
  have h1' : RgAt n (alP R) u c [] := ⟨h1.sorted, h1.mem, h1.good, (fun y hy => by cases hy), h1.last, h1.len⟩
  by_cases hx : x.1 ≤ u
  · have hs := h1'.step hP.ok h2 (by rw [← h3]; exact hx)
    rw [← h3] at hs
    have hc0 : ∀ i, i < n → c i = 0 := fun i hi => by
      by_cases hz : c i = 0
      · exact hz
      · have : (pos (alP R i) 0, i) ∈ ([] : List (Int × Nat)) := (h1.mem _).2 ⟨hi, 0, by dsimp only; omega, rfl⟩
        cases this
    rcases bst_spec (fun i => pos (alP R i) (c i)) n with ⟨e, _⟩ | ⟨b, e, hb, hb0, hmin⟩
    · rw [e] at h2; omega
    have ebx : b = x.2 := by omega
    subst ebx
    rw [hc0 _ hb] at h3 hb0
    have hxm : x ∈ y :: L := (hL.mem _).2 ⟨hb, 0, h3, by rw [h3]; exact hb0, hx⟩
    have hyR := (hL.mem y).1 List.mem_cons_self
    obtain ⟨y1, j, y2, y3, y4⟩ := hyR
    rcases List.mem_cons.1 hxm with rfl | hxL
    · rfl
    · exfalso
      have hlt := List.rel_of_pairwise_cons hL.sorted hxL
      have hpj : 0 ≤ pos (alP R y.2) j := by rw [← y2]; exact y3
      have p0 := pos_zero (hP.ok y.2 y1)
      obtain ⟨q1, _, _⟩ := pos_nonneg (hP.ok y.2 y1) hpj
      have e0 := (hP.ok y.2 y1).e0
      have a0 := (hP.ok y.2 y1).a0
      have hnn := Int.mul_nonneg (show (0 : Int) ≤ (j : Int) by omega) e0
      have hy0 : 0 ≤ pos (alP R y.2) (c y.2) := by
        rw [hc0 _ y1]
        unfold alP
        rw [p0]
        exact a0
      have hm := hmin y.2 y1 hy0
      (try dsimp only at hm)
      rw [hc0 _ y1, hc0 _ hb, ← h3] at hm
      have e1 : pos (alP R y.2) 0 = (R y.2).2.1 := p0
      have e2 : y.1 = (R y.2).2.1 + (j : Int) * (R y.2).2.2 := y2.trans q1
      unfold rlt at hlt
      omega
  · have := (h1'.run hP.ok hu (.inr ⟨x.2, h2, by rw [← h3]; omega⟩)).eq hL
    cases this
theorem SR.none (hP : PlOk n R) {u : Int} (hu : u ≤ MT) (h : SR n R []) {y : Int × Nat} {L : List (Int × Nat)} (hL : RunOk n R u (y :: L)) : False := by
  have := (h.done hP hu (fun y hy => by cases hy)).eq hL
  cases this
end
/-- what Next hands back -/
def NextPostA (w : World) (n : Nat) (R : Nat → Al) (e : Ending) (w' : World) : Prop :=
  ∃ (v : Rn) (f : Int), e = .returned (.tuple #[gV v, .int .i64 f]) ∧ ((f = 0 ∧ ∃ x, v = rgN R x ∧ GR n R [] x) ∨ (f = 4 ∧ v = rn0 ∧ SR n R [])) ∧ Below w.heap.size w w'
def NextPost (w : World) (n : Nat) (R : Nat → Al) (e : Ending) (w' : World) : Prop :=
  ∃ (v : Rn) (f : Int), e = .returned (.tuple #[gV v, .int .i64 f]) ∧ ((f = 0 ∧ ∃ x, v = rgN R x ∧ GR n R [] x) ∨ (SR n R [])) ∧ Below w.heap.size w w'
set_option maxRecDepth 100000 in
set_option maxHeartbeats 3200000 in
theorem next_all {a : Option Addr} {n c : Nat} {R : Nat → Al} {w : World} (hS : SlA w a n R) (hn : n ≤ 9223372036854775807) (hR : ∀ j, j < n → AlB (R j)) (hP : PlOk n R) : Calls Tryd.prog 13 #[pV a n c] w (NextPostA w n R) := by
  have HP := Lib.hid hP
  have HS := Lib.hid hS
  have b1 : Below w.heap.size w (((w.alloc (.cells #[.slice a n c] 44)).alloc (.cells #[.string ⟨#[]⟩, .int .i64 0] 39)).alloc (.cells #[.int .i64 0] 23)) := (((Below.refl _ w).alloc (Nat.le_refl _) _).alloc (by simp) _).alloc (by simp; omega) _
  have HC := Lib.hid (check_ok (c := c) (hS.below b1) hn hR)
  rw [hP.zero] at HC
  have hk1 : (((w.alloc (.cells #[.slice a n c] 44)).alloc (.cells #[.string ⟨#[]⟩, .int .i64 0] 39)).alloc (.cells #[.int .i64 0] 23)).heap[w.heap.size]? = some (.cells #[.slice a n c] 44 (0, 0)) :=
    (Below.heap_alloc _ _ _ (by simp; omega)).trans ((Below.heap_alloc _ _ _ (by simp)).trans (heap_alloc_new w _))
  have hk2 : (((w.alloc (.cells #[.slice a n c] 44)).alloc (.cells #[.string ⟨#[]⟩, .int .i64 0] 39)).alloc (.cells #[.int .i64 0] 23)).heap[w.heap.size + 1]? = some (.cells #[.string ⟨#[]⟩, .int .i64 0] 39 (0, 0)) := by
    have := heap_alloc_new (w.alloc (.cells #[.slice a n c] 44)) (.cells #[.string ⟨#[]⟩, .int .i64 0] 39)
    rw [World.size_alloc] at this
    exact (Below.heap_alloc _ _ _ (by simp)).trans this
  have hk3 : (((w.alloc (.cells #[.slice a n c] 44)).alloc (.cells #[.string ⟨#[]⟩, .int .i64 0] 39)).alloc (.cells #[.int .i64 0] 23)).heap[w.heap.size + 1 + 1]? = some (.cells #[.int .i64 0] 23 (0, 0)) := by
    have := heap_alloc_new ((w.alloc (.cells #[.slice a n c] 44)).alloc (.cells #[.string ⟨#[]⟩, .int .i64 0] 39)) (.cells #[.int .i64 0] 23)
    rw [World.size_alloc, World.size_alloc] at this
    exact this
  have HK1 := Lib.hid hk1
  have HK2 := Lib.hid hk2
  have HK3 := Lib.hid hk3
  have HB0 := Lib.hid b1
  clear hP hS hR b1 hk1 hk2 hk3
  refine (callsIn_wide (n := 6)).1 ?_
  refine callsIn_of_wp_marks Tryd.func13 rfl trivial ?_ rfl
  simp only [Tryd.ntmps13, List.size_toArray, List.length_cons, List.length_nil, Nat.reduceAdd, Nat.reduceSub, Array.replicate_succ, Array.replicate_zero, List.push_toArray, List.append_toArray, List.nil_append, List.cons_append]
  gi_wp2_with fail
  refine ⟨trivial, (callsIn_wide.2 HC.out).mono ?_⟩
  rintro e w1 ⟨rfl, b1⟩
  have HK11 := Lib.hid ((b1.block _ (blk_lt HK1.out)).trans HK1.out)
  have HK21 := Lib.hid ((b1.block _ (blk_lt HK2.out)).trans HK2.out)
  have HK31 := Lib.hid ((b1.block _ (blk_lt HK3.out)).trans HK3.out)
  have HB1 := Lib.hid (below_tr HB0.out b1)
  have k2 : w1.cell? ⟨w.heap.size, 0, none⟩ = some (.slice a n c) := by rw [cell_of_block HK11.out]; rfl
  have kl2 := blk_lt HK11.out
  clear b1
  gi_wp2_with fail
  refine ⟨trivial, (callsIn_wide.2 (rings_ok a n c _)).mono ?_⟩
  rintro e w2 ⟨rfl, hw2⟩
  have b2 : Below w1.heap.size w1 w2 := by
    rw [← hw2]
    exact (Below.refl _ _).alloc (Nat.le_refl _) _
  have hz2 : w2.heap.size = w1.heap.size + 1 := by rw [← hw2]; simp
  have hz3 : w.heap.size + 3 ≤ w1.heap.size := by have := blk_lt HK31.out; omega
  have hni : NI w a n c w1.heap.size [] w2 := by
    refine ⟨below_tr HB1.out b2, (b2.block _ (blk_lt HK21.out)).trans HK21.out, (b2.block _ (blk_lt HK31.out)).trans HK31.out, ?_, hz3, rfl⟩
    rw [← hw2]
    exact heap_alloc_new w1 _
  have HNI := Lib.hid hni
  clear hw2 b2 hni k2 kl2
  gi_wp2
  obtain ⟨z, hz⟩ : ∃ z, w1.heap.size = z := ⟨_, rfl⟩
  rw [hz] at hz2 HNI hz3 ⊢
  have HZ2 := Lib.hid hz2
  clear hz hz2
  refine wpIn_iterK_box rfl (by omega) (gf := 53) (lb := #[.pointer (some ⟨z, 0, none⟩)]) rfl trivial (enters_of Tryd.func53 (by kernel_rfl) rfl)
    (NI w a n c z) (rings_seq _ HP.out z (NI w a n c z) (fun pre W h => ⟨h.p, HS.out.below h.k⟩) w2)
    (fun h hk ho => h.keeps hk ho) (fun hB h => h.mono hB) (fun s X Y h ho => by rw [HZ2.out] at ho; exact h.from ho.1)
    (fun h k => h.trans k) (fun W l o o' _ hl ho => Kp9.putObj W l o o' hl ho) (fun _ => rfl)
    (fun cd xs W => cd = .ret ∧ ∃ x, GR n R [] x ∧ NX w n R z x W) (by rw [HZ2.out]; exact NI.own) ?ixown HNI.out
    (fun a x Bx => { tmps := ((a.tmps.setIfInBounds 19 (.int .i64 (x.2 : Int))).setIfInBounds 20 (gV (rgN R x))).setIfInBounds 7 (.pointer (some ⟨Bx, 0, none⟩)), defers := [] })
    (fun x Bx W => z + 1 ≤ Bx ∧ W.heap[Bx]? = some (.cells #[.string (rgN R x).1, .int .i64 (rgN R x).2] 39 (0, 0))) (fun x Bx s X Y row h hg hr => ⟨h.1, blk_kept h.2 hg (fun r e => (hr r e).2)⟩)
    ?assign ?body ?done ?stop
  case ixown =>
    rintro cd xs X Y row ⟨h1, x, h2, h3⟩ hg hr
    exact ⟨h1, x, h2, NX.own () X Y row h3 hg (by rw [HZ2.out] at hr; exact hr)⟩
  case assign =>
    intro l pre x W K hi hG hK
    simp only [List.setIfInBounds_toArray, List.set_cons_zero, List.set_cons_succ] at hK
    have bA := below_box0 W (.cells #[.string (rgN R x).1, .int .i64 (rgN R x).2] 39)
    have hB := heap_alloc_new W (.cells #[.string (rgN R x).1, .int .i64 (rgN R x).2] 39)
    have hlt := blk_lt hi.p
    gi_wp2
    exact hK _ _ ((KeepsOthers.alloc _ _).from _) (Kp9.alloc _ _) (hi.below bA) ⟨by omega, hB⟩
  case body =>
    rintro l pre ⟨t, ix⟩ Bx W hl hi ⟨hBz, hB⟩ hG
    obtain rfl := hi.e
    obtain ⟨s, hs⟩ : ∃ s, (R ix).1 = s := ⟨_, rfl⟩
    have hB' : W.heap[Bx]? = some (.cells #[.string s, .int .i64 t] 39 (0, 0)) := by rw [← hs]; exact hB
    have hrg : gV (rgN R (t, ix)) = .agg #[.string s, .int .i64 t] := by rw [← hs]; rfl
    have hrc : rgN R (t, ix) = (s, t) := by rw [← hs]; rfl
    rw [hrg]
    have k0 : W.cell? ⟨Bx, 0, none⟩ = some (.string s) := by rw [cell_of_block hB']; rfl
    have k1 : W.cell? ⟨Bx, 1, none⟩ = some (.int .i64 t) := by rw [cell_of_block hB']; rfl
    have k2 : W.cell? ⟨w.heap.size + 1, 0, none⟩ = some (.string ⟨#[]⟩) := by rw [cell_of_block hi.b2]; rfl
    have k3 : W.cell? ⟨w.heap.size + 1, 1, none⟩ = some (.int .i64 0) := by rw [cell_of_block hi.b2]; rfl
    have k4 : W.cell? ⟨w.heap.size + 1 + 1, 0, none⟩ = some (.int .i64 0) := by rw [cell_of_block hi.b3]; rfl
    have f2 := unfrozen_of_block hi.b2
    have f3 := unfrozen_of_block hi.b3
    have HI := Lib.hid hi
    have HGR := Lib.hid hG
    have HRC := Lib.hid hrc
    clear hi hG hB hB' hrg hrc hs
    simp only [List.setIfInBounds_toArray, List.set_cons_zero, List.set_cons_succ]
    gi_wp2
    refine ⟨(((KeepsOthers.setCell _ _ _).trans (KeepsOthers.setCell _ _ _)).trans (KeepsOthers.setCell _ _ _)).from _, rfl, (t, ix), HGR.out, ?_⟩
    refine ⟨((HI.out.k.setCell (p := ⟨w.heap.size + 1, 0, none⟩) (by dsimp only; omega) _).setCell (p := ⟨w.heap.size + 1, 1, none⟩) (by dsimp only; omega) _).setCell (p := ⟨w.heap.size + 1 + 1, 0, none⟩) (by dsimp only; omega) _, ?_, ?_, HI.out.z3⟩
    · rw [HRC.out]
      exact (Below.heap_setCell _ _ _ _ (show w.heap.size + 1 ≠ w.heap.size + 1 + 1 by omega)).trans ((setCell_block (setCell_block HI.out.b2 _) _).trans (by simp))
    · exact (setCell_block ((Below.heap_setCell _ _ _ _ (show w.heap.size + 1 + 1 ≠ w.heap.size + 1 by omega)).trans ((Below.heap_setCell _ _ _ _ (show w.heap.size + 1 + 1 ≠ w.heap.size + 1 by omega)).trans HI.out.b3)) _).trans (by simp)
  case done =>
    rintro D xs W hD hS2 hi hK
    obtain rfl := hi.e
    have HI := Lib.hid hi
    have HSR := Lib.hid hS2
    have HD := Lib.hid hK
    have hD2 : z + 1 ≤ D := by rw [HZ2.out] at hD; exact hD
    have HD2 := Lib.hid hD2
    have k2 : W.cell? ⟨w.heap.size + 1, 0, none⟩ = some (.string ⟨#[]⟩) := by rw [cell_of_block hi.b2]; rfl
    have k3 : W.cell? ⟨w.heap.size + 1, 1, none⟩ = some (.int .i64 0) := by rw [cell_of_block hi.b2]; rfl
    have k4 : W.cell? ⟨w.heap.size + 1 + 1, 0, none⟩ = some (.int .i64 0) := by rw [cell_of_block hi.b3]; rfl
    have f2 := unfrozen_of_block hi.b2
    have f3 := unfrozen_of_block hi.b3
    clear hi hS2 hK hD2 hD
    (try simp only [Exit.inBlock, Exit.then])
    refine use_k (by assumption) ?_
    refine wpIn_wide.2 ?_
    go_wp2
    clear k2 k3 k4 f2 f3
    obtain ⟨W5, hW5⟩ : ∃ V, (((W.setCell ⟨w.heap.size + 1, 0, none⟩ (.string ⟨#[]⟩)).setCell ⟨w.heap.size + 1, 1, none⟩ (.int .i64 0)).setCell ⟨w.heap.size + 1 + 1, 0, none⟩ (.int .i64 4)) = V := ⟨_, rfl⟩
    have hb5 : Below w.heap.size w W5 := by
      rw [← hW5]
      exact ((HI.out.k.setCell (p := ⟨w.heap.size + 1, 0, none⟩) (by dsimp only; omega) _).setCell (p := ⟨w.heap.size + 1, 1, none⟩) (by dsimp only; omega) _).setCell (p := ⟨w.heap.size + 1 + 1, 0, none⟩) (by dsimp only; omega) _
    have e2 : W5.heap[w.heap.size + 1]? = some (.cells #[.string ⟨#[]⟩, .int .i64 0] 39 (0, 0)) := by
      rw [← hW5]
      exact (Below.heap_setCell _ _ _ _ (show w.heap.size + 1 ≠ w.heap.size + 1 + 1 by omega)).trans ((setCell_block (setCell_block HI.out.b2 _) _).trans (by simp))
    have e3 : W5.heap[w.heap.size + 1 + 1]? = some (.cells #[.int .i64 4] 23 (0, 0)) := by
      rw [← hW5]
      exact (setCell_block ((Below.heap_setCell _ _ _ _ (show w.heap.size + 1 + 1 ≠ w.heap.size + 1 by omega)).trans ((Below.heap_setCell _ _ _ _ (show w.heap.size + 1 + 1 ≠ w.heap.size + 1 by omega)).trans HI.out.b3)) _).trans (by simp)
    have hz3' := HI.out.z3
    have hD2 := HD2.out
    have ed : W5.heap[D]? = some (.deferred (some [])) := by
      rw [← hW5]
      exact (Below.heap_setCell _ _ _ _ (show D ≠ w.heap.size + 1 + 1 by omega)).trans ((Below.heap_setCell _ _ _ _ (show D ≠ w.heap.size + 1 by omega)).trans ((Below.heap_setCell _ _ _ _ (show D ≠ w.heap.size + 1 by omega)).trans HD.out))
    rw [hW5]
    clear hW5
    refine ⟨by simp, .inl ⟨D, _, rfl, run_takeDeferred ed, ?_⟩⟩
    have o2 : (W5.putObj D (.deferred none)).heap[w.heap.size + 1]? = _ := (World.putObj_heap_other (show w.heap.size + 1 ≠ D by omega)).trans e2
    have o3 : (W5.putObj D (.deferred none)).heap[w.heap.size + 1 + 1]? = _ := (World.putObj_heap_other (show w.heap.size + 1 + 1 ≠ D by omega)).trans e3
    have c0 : (W5.putObj D (.deferred none)).cell? ⟨w.heap.size + 1, 0, none⟩ = some (.string ⟨#[]⟩) := by rw [cell_of_block o2]; rfl
    have c1 : (W5.putObj D (.deferred none)).cell? ⟨w.heap.size + 1, 1, none⟩ = some (.int .i64 0) := by rw [cell_of_block o2]; rfl
    have c2 : (W5.putObj D (.deferred none)).cell? ⟨w.heap.size + 1 + 1, 0, none⟩ = some (.int .i64 4) := by rw [cell_of_block o3]; rfl
    refine ⟨.tuple #[gV rn0, .int .i64 4], ?_, ⟨rn0, 4, rfl, .inr ⟨rfl, rfl, HSR.out⟩, hb5.trans (belowK_b (w := w) (Nat.le_refl _) _ D _ _ (by omega) ed rfl rfl)⟩⟩
    simp [results, Tryd.results13, go_sem, c0, c1, c2, rn0]
  case stop =>
    rintro D cd pre W hD ⟨rfl, x, hG, hi⟩ hK
    have hD2 : z + 1 ≤ D := by rw [HZ2.out] at hD; exact hD
    have hz3' := hi.z3
    have o2 : (W.putObj D (.deferred none)).heap[w.heap.size + 1]? = _ := (World.putObj_heap_other (show w.heap.size + 1 ≠ D by omega)).trans hi.b2
    have o3 : (W.putObj D (.deferred none)).heap[w.heap.size + 1 + 1]? = _ := (World.putObj_heap_other (show w.heap.size + 1 + 1 ≠ D by omega)).trans hi.b3
    have c0 : (W.putObj D (.deferred none)).cell? ⟨w.heap.size + 1, 0, none⟩ = some (.string (rgN R x).1) := by rw [cell_of_block o2]; rfl
    have c1 : (W.putObj D (.deferred none)).cell? ⟨w.heap.size + 1, 1, none⟩ = some (.int .i64 (rgN R x).2) := by rw [cell_of_block o2]; rfl
    have c2 : (W.putObj D (.deferred none)).cell? ⟨w.heap.size + 1 + 1, 0, none⟩ = some (.int .i64 0) := by rw [cell_of_block o3]; rfl
    refine wpIn_ret ?_
    simp only [Exit.inBlock, Exit.then]
    refine ⟨by simp, .inl ⟨D, _, rfl, run_takeDeferred hK, ?_⟩⟩
    refine ⟨.tuple #[gV (rgN R x), .int .i64 0], ?_, ⟨rgN R x, 0, rfl, .inl ⟨rfl, x, rfl, hG⟩, hi.k.trans (belowK_b (w := w) (Nat.le_refl _) _ D _ _ (by omega) hK rfl rfl)⟩⟩
    simp [results, Tryd.results13, go_sem, c0, c1, c2]
theorem next_ok {a : Option Addr} {n c : Nat} {R : Nat → Al} {w : World} (hS : SlA w a n R) (hn : n ≤ 9223372036854775807) (hR : ∀ j, j < n → AlB (R j)) (hP : PlOk n R) : Calls Tryd.prog 13 #[pV a n c] w (NextPost w n R) := by
  refine (next_all hS hn hR hP).mono ?_
  rintro e w' ⟨v, f, h1, h2 | ⟨_, _, h2⟩, h3⟩
  · exact ⟨v, f, h1, .inl h2, h3⟩
  · exact ⟨v, f, h1, .inr h2, h3⟩
end Go.Proofs.YtmgpdaljminipaaDoor
