/- Handles: walked of the laws: the handles that are alive, and their values. -/
import Derived.Test.YtpaecmpiokkdnaaDoorTypesZ16
import Derived.RegionTactic
namespace Go.Proofs.YtpaecmpiokkdnaaDoor
open Go.RowKit Go.Sort Go.Joins Go.Shelf
attribute [local go_sem] cell_grow frozen_grow size_grow Oper.semAt_some

def hndL (st : List Slt) (pre : List Nat) : List Value := pre.map fun i => .int .i64 (hndI st i)
def valL (st : List Slt) (pre : List Nat) : List Value := pre.map fun i => (st.getD i (0, false, undef)).2.2
theorem info_i64 : (Tryd.prog.info? 2).map (fun i => (i.zero, i.size, i.bytes)) = some (some (.int .i64 0), 1, 8) := by kernel_rfl
theorem info_int2 : (Tryd.prog.info? 3).map (fun i => (i.zero, i.size, i.bytes)) = some (some (.int .i64 0), 1, 8) := by kernel_rfl
theorem func_ne_nil' (fn : Fn) (fs cs : Array Value) (w : World) : (binOp .eql 45 (.func fn fs cs) .nilFunc).run Tryd.prog w = .ok (.bool false) w := by kernel_rfl
/-- a post that no panic meets -/
def noPanic' (Q : Exit → Act → World → Prop) : Exit → Act → World → Prop
  | .panic _, _, _ => False
  | .normal, a, w => Q .normal a w
  | .ret, a, w => Q .ret a w
  | .exit i, a, w => Q (.exit i) a w
  | .goto i, a, w => Q (.goto i) a w
  | .outgrown, a, w => Q .outgrown a w
theorem code_noPanic' {F : Fence} {n : Nat} {P : Program} {c : Code} {Q : Exit → Act → World → Prop} {a : Act} {w : World} (h : c.wpIn F n P (noPanic' Q) a w) : c.wpIn F n P Q a w :=
  wpIn_mono h fun e _ _ h => by cases e <;> first | exact h | exact h.elim
/-- what lies in memory -/
structure WD (w W : World) (B p q : Nat) (st : List Slt) (pre : List Nat) (r0 r1 : Value) : Prop where
  t : Int.TT W B p q st
  b4 : W.heap[w.heap.size]? = some (.cells #[r0] 51 (0, 0))
  b5 : W.heap[w.heap.size + 1]? = some (.cells #[r1] 32 (0, 0))
  bt : W.heap[w.heap.size + 1 + 1]? = some (.cells #[.pointer (some ⟨p, 0, none⟩)] 24 (0, 0))
  o0 : W.ownsRow w.heap.size 2 1 r0 pre.length (hndL st pre)
  o1 : W.ownsRow w.heap.size 3 1 r1 pre.length (valL st pre)
  n01 : ∀ g, r0.ownBlock = some g → r1.ownBlock ≠ some g
  k : Below w.heap.size w W
theorem WD.below {w W W' : World} {B p q : Nat} {st : List Slt} {pre : List Nat} {r0 r1 : Value} (h : WD w W B p q st pre r0 r1) (hb : Below W.heap.size W W') : WD w W' B p q st pre r0 r1 := by
  have N : ∀ {k : Nat} {o : Obj}, W.heap[k]? = some o → W'.heap[k]? = some o := fun ho => (hb.block _ (blk_lt ho)).trans ho
  exact ⟨Tb.below h.t hb, N h.b4, N h.b5, N h.bt, own_below h.o0 hb, own_below h.o1 hb, h.n01, h.k.trans (hb.mono h.k.size)⟩
theorem WD.drew {w W : World} {B p q : Nat} {st : List Slt} {pre : List Nat} {r0 r1 : Value} (h : WD w W B p q st pre r0 r1) : WD w W.drew B p q st pre r0 r1 := h.below (Below.refl _ _).drew
theorem WD.kept {w W W' : World} {B p q : Nat} {st : List Slt} {pre : List Nat} {r0 r1 : Value} (h : WD w W B p q st pre r0 r1) {row : Option Nat} {Z : Nat} (hZ : w.heap.size ≤ Z) (hg : W.grownBy W' row) (hr : ∀ r, row = some r → Z ≤ r ∧ ∃ o : Obj, W.heap[r]? = some o ∧ o.isCells = false) : WD w W' B p q st pre r0 r1 := by
  have hr2 := fun r e => (hr r e).2
  exact ⟨Tb.kept h.t hg hr2, blk_kept h.b4 hg hr2, blk_kept h.b5 hg hr2, blk_kept h.bt hg hr2, own_stays' h.o0 hg hr2, own_stays' h.o1 hg hr2, h.n01, h.k.grown hg h.k.size (fun r e => by have := (hr r e).1; omega)⟩
/-- a step that makes memory and turns the rows alone -/
theorem WD.next {w W wx : World} {B p q : Nat} {st : List Slt} {pre : List Nat} {r0 r1 : Value} (hD : WD w W B p q st pre r0 r1) {x N : Nat} {h z : Int} {t0 t1 : TypeId} {D0 D1 : ChDyn} {g0 g1 k0 k1 : Nat} (hN : pre.length = N) (hBw : p < w.heap.size ∧ q < w.heap.size) (hh : hndI st x = h) (hz : (st.getD x (0, false, undef)).2.2 = .int .i64 z)
    (HC : Chains W [(ChSpec.mk w.heap.size 2 t0 r0 N (hndL st pre) (.int .i64 h) [.int .i64 h], D0), (ChSpec.mk w.heap.size 3 t1 r1 N (valL st pre) (.int .i64 z) [.int .i64 z], D1)] wx)
    (own0 : wx.ownsRow w.heap.size 2 1 (.slice (some ⟨g0, 0, none⟩) (N + 1) k0) (N + 1) (hndL st pre ++ [.int .i64 h])) (own1 : wx.ownsRow w.heap.size 3 1 (.slice (some ⟨g1, 0, none⟩) (N + 1) k1) (N + 1) (valL st pre ++ [.int .i64 z]))
    (hu0 : g0 ∈ D0.u) (hu1 : g1 ∈ D1.u) :
    WD w ((wx.setCell ⟨w.heap.size, 0, none⟩ (.slice (some ⟨g0, 0, none⟩) (N + 1) k0)).setCell ⟨w.heap.size + 1, 0, none⟩ (.slice (some ⟨g1, 0, none⟩) (N + 1) k1)) B p q st (pre ++ [x]) (.slice (some ⟨g0, 0, none⟩) (N + 1) k0) (.slice (some ⟨g1, 0, none⟩) (N + 1) k1) := by
  have hap := HC.apart
  simp only [List.pairwise_cons, List.mem_cons, List.not_mem_nil, or_false, forall_eq] at hap
  have N1 : ∀ {k : Nat} {cs : Array Value} {t : TypeId}, W.heap[k]? = some (.cells cs t (0, 0)) → 2 ≠ t → 3 ≠ t → wx.heap[k]? = some (.cells cs t (0, 0)) := fun hk h1 h2 => (HC.block _ (blk_lt hk) (by
    intro c hc
    simp only [List.mem_cons, List.not_mem_nil, or_false] at hc
    rcases hc with rfl | rfl
    · exact own_ne hD.o0 hk h1
    · exact own_ne hD.o1 hk h2)).trans hk
  have x4 := N1 hD.b4 (by decide) (by decide)
  have x5 := N1 hD.b5 (by decide) (by decide)
  have xt := N1 hD.bt (by decide) (by decide)
  have y4 : (wx.setCell ⟨w.heap.size, 0, none⟩ (.slice (some ⟨g0, 0, none⟩) (N + 1) k0)).heap[w.heap.size + 1]? = some (.cells #[r1] 32 (0, 0)) := (Below.heap_setCell _ _ _ _ (by dsimp only; omega)).trans x5
  have a0 : (Value.slice (some ⟨g0, 0, none⟩) (N + 1) k0).ownBlock ≠ some w.heap.size := own_ne own0 x4 (by decide)
  have a1 : (Value.slice (some ⟨g0, 0, none⟩) (N + 1) k0).ownBlock ≠ some (w.heap.size + 1) := own_ne own0 x5 (by decide)
  have c0 : (Value.slice (some ⟨g1, 0, none⟩) (N + 1) k1).ownBlock ≠ some w.heap.size := own_ne own1 x4 (by decide)
  have c1 : (Value.slice (some ⟨g1, 0, none⟩) (N + 1) k1).ownBlock ≠ some (w.heap.size + 1) := own_ne own1 x5 (by decide)
  have htb : Int.TT wx B p q st := by
    have h := hD.t
    obtain ⟨ra, rcap, h1, h2⟩ := Tb.tbl h
    refine ⟨h.hp, h.hq, h.ne, h.n1, h.n2, ⟨ra, rcap, N1 h1 (by decide) (by decide), ?_⟩, N1 h.slots (by decide) (by decide), h.rb⟩
    refine ⟨h2.1, ?_⟩
    rcases h2.2 with h3 | ⟨g, cap, cur, e1, e2, e3, e4⟩
    · exact .inl h3
    · exact .inr ⟨g, cap, cur, e1, e2, N1 e3 (by decide) (by decide), e4⟩
  have hl : (pre ++ [x]).length = N + 1 := by simp [hN]
  have e0 : hndL st (pre ++ [x]) = hndL st pre ++ [.int .i64 h] := by simp [hndL, hh]
  have e1 : valL st (pre ++ [x]) = valL st pre ++ [.int .i64 z] := by simp only [valL, List.map_append, List.map_cons, List.map_nil, hz]
  have hwk : Below w.heap.size w wx := hD.k.trans ⟨HC.os, HC.tape, HC.output, HC.size, fun k hk => HC.block k (by have := hD.k.size; omega) (by
    intro c hc
    simp only [List.mem_cons, List.not_mem_nil, or_false] at hc
    rcases hc with rfl | rfl
    · exact fun e => by have := (hD.o0.lt k e).1; omega
    · exact fun e => by have := (hD.o1.lt k e).1; omega)⟩
  refine ⟨Tb.set_other (Tb.set_other htb x4 (by decide) (by omega) (by omega) _) y4 (by decide) (by omega) (by omega) _, ?_, ?_, ?_, ?_, ?_, ?_, ?_⟩
  · rw [Below.heap_setCell _ _ _ _ (by dsimp only; omega), setCell_block x4]; rfl
  · rw [setCell_block y4]; rfl
  · rw [Below.heap_setCell _ _ _ _ (by dsimp only; omega), Below.heap_setCell _ _ _ _ (by dsimp only; omega)]; exact xt
  · rw [hl, e0]; exact ownsRow_setCell_other (ownsRow_setCell_other own0 (a := ⟨w.heap.size, 0, none⟩) a0 _) (a := ⟨w.heap.size + 1, 0, none⟩) a1 _
  · rw [hl, e1]; exact ownsRow_setCell_other (ownsRow_setCell_other own1 (a := ⟨w.heap.size, 0, none⟩) c0 _) (a := ⟨w.heap.size + 1, 0, none⟩) c1 _
  · intro k h1 h2
    simp only [Value.ownBlock, Option.some.injEq] at h1 h2
    exact hap.1 g0 hu0 (by rw [h1, ← h2]; exact hu1)
  · exact (hwk.setCell (p := ⟨w.heap.size, 0, none⟩) (Nat.le_refl _) _).setCell (p := ⟨w.heap.size + 1, 0, none⟩) (by dsimp only; omega) _
theorem own_blk_cells {W : World} {base : Nat} {e : TypeId} {size : Nat} {v : Value} {n : Nat} {xs : List Value} (h : W.ownsRow base e size v n xs) {k : Nat} {o : Obj} (ho : W.heap[k]? = some o) (hc : o.isCells = false) : v.ownBlock ≠ some k := by
  intro e
  rcases h.2 with ⟨e1, _⟩ | ⟨g, _, _, e1, _, e2, _⟩
  · rw [e1] at e; simp [Value.ownBlock] at e
  · have : g = k := by rw [e1] at e; simpa [Value.ownBlock] using e
    subst this
    rw [e2] at ho
    cases ho
    simp [Obj.isCells] at hc
theorem WD.keeps {w W wx : World} {B p q : Nat} {st : List Slt} {pre : List Nat} {r0 r1 : Value} (hD : WD w W B p q st pre r0 r1) {N : Nat} {x0 x1 : Value} {c0 c1 : List Value} {xs0 xs1 : List Value} {t0 t1 : TypeId} {D0 D1 : ChDyn} {b0 b1 : Nat} {e0 e1 : TypeId}
    (HC : Chains W [(ChSpec.mk b0 e0 t0 r0 N xs0 x0 c0, D0), (ChSpec.mk b1 e1 t1 r1 N xs1 x1 c1, D1)] wx) (Z : Nat) : KeepsFrom Z W wx :=
  ⟨HC.size, fun k o _ ho hc => (HC.block k (blk_lt ho) (by
    intro c hcm
    simp only [List.mem_cons, List.not_mem_nil, or_false] at hcm
    rcases hcm with rfl | rfl
    · exact own_blk_cells hD.o0 ho hc
    · exact own_blk_cells hD.o1 ho hc)).trans ho⟩
section
set_option maxRecDepth 100000 in
set_option maxHeartbeats 6400000 in
theorem walked_ok {B p q : Nat} {st : List Slt} (w : World) (hT : Int.TT w B p q st) (hg : ∀ j, j < st.length → (st.getD j (0, false, undef)).1 ≤ 65535) (hv : ∀ j, j < st.length → ∃ z : Int, (st.getD j (0, false, undef)).2.2 = .int .i64 z) :
    Calls Tryd.prog 25 #[.pointer (some ⟨p, 0, none⟩)] w fun e w' => ∃ a0 k0 a1 k1, e = .returned (.tuple #[.slice a0 (alvL st st.length).length k0, .slice a1 (alvL st st.length).length k1]) ∧
      w'.ownsRow w.heap.size 2 1 (.slice a0 (alvL st st.length).length k0) (alvL st st.length).length (hndL st (alvL st st.length)) ∧ w'.ownsRow w.heap.size 3 1 (.slice a1 (alvL st st.length).length k1) (alvL st st.length).length (valL st (alvL st st.length)) ∧ Below w.heap.size w w' := by
  obtain ⟨i0, hi0, hz0, hs0, hb0⟩ := info_parts info_i64
  obtain ⟨i1, hi1, hz1, hs1, hb1⟩ := info_parts info_int2
  have hn2 := hT.n2
  have hql := blk_lt (Tb.slots hT)
  obtain ⟨_, _, hpb, _⟩ := Tb.tbl hT
  have hpl := blk_lt hpb
  clear hpb
  have HT := Lib.hid hT
  have HG := Lib.hid hg
  have HV := Lib.hid hv
  have hne := func_ne_nil'
  clear hT hg hv
  obtain ⟨NN, hNN⟩ : ∃ NN, (alvL st st.length).length = NN := ⟨_, rfl⟩
  rw [hNN]
  have HNA := Lib.hid hNN
  clear hNN
  refine (callsIn_wide (n := 4)).1 ?_
  refine callsIn_of_wp_marks Tryd.func25 rfl trivial ?_ rfl
  simp only [Tryd.ntmps25, List.size_toArray, List.length_cons, List.length_nil, Nat.reduceAdd, Nat.reduceSub, Array.replicate_succ, Array.replicate_zero, List.push_toArray, List.append_toArray, List.nil_append, List.cons_append]
  gi_wp2_with fail
  refine ⟨trivial, (callsIn_wide.2 (all_ok _ _)).mono ?_⟩
  rintro e w2 ⟨rfl, hw2⟩
  have hWD : WD w w2 B p q st [] (.slice none 0 0) (.slice none 0 0) := by
    have bw : Below w.heap.size w w2 := by
      rw [← hw2]
      exact (((Below.refl _ w).alloc (Nat.le_refl _) _).alloc (by simp) _).alloc (by simp; omega) _
    refine ⟨Tg.below HT.out bw, ?_, ?_, ?_, World.ownsRow_nil _ _ _ _, World.ownsRow_nil _ _ _ _, fun g h => by simp [Value.ownBlock] at h, bw⟩
    · rw [← hw2]; refine (Below.heap_alloc _ _ _ (by simp <;> omega)).trans ?_; refine (Below.heap_alloc _ _ _ (by simp <;> omega)).trans ?_; exact heap_alloc_new w _
    · rw [← hw2]; refine (Below.heap_alloc _ _ _ (by simp <;> omega)).trans ?_
      have := heap_alloc_new (w.alloc (.cells #[.slice none 0 0] 51)) (.cells #[.slice none 0 0] 32)
      rwa [World.size_alloc] at this
    · rw [← hw2]
      have := heap_alloc_new ((w.alloc (.cells #[.slice none 0 0] 51)).alloc (.cells #[.slice none 0 0] 32)) (.cells #[.pointer (some ⟨p, 0, none⟩)] 24)
      rwa [World.size_alloc, World.size_alloc] at this
  have hsz2 : w.heap.size + 3 ≤ w2.heap.size := by rw [← hw2]; simp
  have HWD0 := Lib.hid hWD
  clear hWD hw2
  gi_wp2
  refine wpIn_iter_moves rfl (by omega) (gf := 57) (lb := #[.pointer (some ⟨w.heap.size + 1 + 1, 0, none⟩)]) rfl trivial (enters_of Tryd.func57 (by kernel_rfl) rfl)
    (fun pre W => ∃ r0 r1, WD w W B p q st pre r0 r1)
    (all_seq _ B p q (w.heap.size + 1 + 1) st _ ?keep HG.out HV.out _) (fun _ => rfl) (fun _ _ _ => False) ?own (fun _ _ _ _ _ hs _ _ => hs) ?start
    (fun a x => { tmps := (((a.tmps.setIfInBounds 14 (.int .i64 (hndI st x))).setIfInBounds 15 ((st.getD x (0, false, undef)).2.2)).setIfInBounds 7 (.int .i64 (hndI st x))).setIfInBounds 8 ((st.getD x (0, false, undef)).2.2), defers := [] })
    ?assign ?body ?done (fun _ _ _ _ _ h _ => h.elim)
  case keep =>
    rintro pre W ⟨r0, r1, hD⟩
    exact ⟨st, hD.t, rfl, fun _ _ => rfl, by rw [cell_of_block hD.bt]; rfl⟩
  case own =>
    rintro pre X Y row ⟨r0, r1, hD⟩ hg hr
    exact ⟨r0, r1, hD.kept (by have := HWD0.out.k.size; omega) hg hr⟩
  case start => exact ⟨_, _, HWD0.out⟩
  case assign =>
    intro l x W K hK
    simp only [List.setIfInBounds_toArray, List.set_cons_zero, List.set_cons_succ] at hK
    gi_wp2
    exact hK
  case body =>
    rintro l pre x W hl ⟨r0, r1, hD⟩ ⟨hpre, hx, hal⟩
    obtain ⟨z, hz⟩ := HV.out x hx
    obtain ⟨h, hh⟩ : ∃ h, hndI st x = h := ⟨_, rfl⟩
    rw [hh, hz]
    obtain ⟨N, hN⟩ : ∃ N, pre.length = N := ⟨_, rfl⟩
    have hNx : N ≤ x := by rw [← hN, hpre]; exact Nat.le_trans (List.length_filter_le _ _) (by simp)
    have HNN := Lib.hid hN
    have HD := Lib.hid hD
    have HH := Lib.hid hh
    have HZ := Lib.hid hz
    have HPre := Lib.hid hpre
    clear hD hN hh hz hpre hal
    simp only [List.setIfInBounds_toArray, List.set_cons_zero, List.set_cons_succ]
    gi_wp2
    refine wpIn_region_any (by kernel_rfl) ?_
    change wpAnyIn _ _ _ _ _ _ _ _ _ (World.drew _)
    generalize hWd : World.drew _ = Wr
    have HWD := Lib.hid hWd
    clear hWd
    have HDd := Lib.hid (show WD w Wr B p q st pre r0 r1 from by rw [← HWD.out]; exact HD.out.drew)
    have HE0 : Hid (Wr.heap[w.heap.size]? = some (.cells #[r0] 51 (0, 0))) := Lib.hid HDd.out.b4
    have HE1 : Hid (Wr.heap[w.heap.size + 1]? = some (.cells #[r1] 32 (0, 0))) := Lib.hid HDd.out.b5
    have HO0 : Hid (Wr.ownsRow w.heap.size 2 1 r0 N (hndL st pre)) := Lib.hid (by rw [← HNN.out]; exact HDd.out.o0)
    have HO1 : Hid (Wr.ownsRow w.heap.size 3 1 r1 N (valL st pre)) := Lib.hid (by rw [← HNN.out]; exact HDd.out.o1)
    refine wpAnyIn_named (fun A0 hA0 => ?_)
    have HA0 := Lib.hid hA0
    clear hA0
    have HCELL : Hid (∀ (d0 d1 : ChDyn) (wx : World), Chains Wr [((ChSpec.mk w.heap.size 2 2 r0 N (hndL st pre) (.int .i64 h) [.int .i64 h]), d0), ((ChSpec.mk w.heap.size 3 3 r1 N (valL st pre) (.int .i64 z) [.int .i64 z]), d1)] wx → wx.heap[w.heap.size]? = some (.cells #[r0] 51 (0, 0)) ∧ wx.heap[w.heap.size + 1]? = some (.cells #[r1] 32 (0, 0))) := Lib.hid (by
      intro d0 d1 wx HC
      have hrow : ∀ k, k < Wr.heap.size → (((ChSpec.mk w.heap.size 2 2 r0 N (hndL st pre) (.int .i64 h) [.int .i64 h])).row.ownBlock ≠ some k ∧ ((ChSpec.mk w.heap.size 3 3 r1 N (valL st pre) (.int .i64 z) [.int .i64 z])).row.ownBlock ≠ some k) → wx.heap[k]? = Wr.heap[k]? := fun k hk hn => HC.block k hk (by
        intro c hc
        simp only [List.mem_cons, List.not_mem_nil, or_false] at hc
        rcases hc with rfl | rfl
        · exact hn.1
        · exact hn.2
      )
      refine ⟨(hrow _ (blk_lt HE0.out) ⟨own_ne HO0.out HE0.out (by decide), own_ne HO1.out HE0.out (by decide)⟩).trans HE0.out, (hrow _ (blk_lt HE1.out) ⟨own_ne HO0.out HE1.out (by decide), own_ne HO1.out HE1.out (by decide)⟩).trans HE1.out⟩
      )
    refine wpAnyIn_inv (fun l a wx => ∃ (d0 d1 : ChDyn), l = #[d0.r, d0.y, d0.b, d0.a, d1.r, d1.y, d1.b, d1.a, false, false] ∧ a = ((((((((A0.put (some 16) d0.vr).put (some 17) d0.vx).put (some 18) d0.vb).put (some 19) d0.va).put (some 20) d1.vr).put (some 21) d1.vx).put (some 22) d1.vb).put (some 23) d1.va) ∧ ((d1.a = true → d0.a = true)) ∧ Chains Wr [((ChSpec.mk w.heap.size 2 2 r0 N (hndL st pre) (.int .i64 h) [.int .i64 h]), d0), ((ChSpec.mk w.heap.size 3 3 r1 N (valL st pre) (.int .i64 z) [.int .i64 z]), d1)] wx) (by kernel_rfl) (by rintro l a wx ⟨_, _, rfl, _, _⟩; rfl) ?step _ _ _ _ (by kernel_rfl) ?start
    case start =>
      refine ⟨ChDyn.new (ChSpec.mk w.heap.size 2 2 r0 N (hndL st pre) (.int .i64 h) [.int .i64 h]) (A0.tmps[16]?.getD undef) (A0.tmps[17]?.getD undef) (A0.tmps[18]?.getD undef) (A0.tmps[19]?.getD undef), ChDyn.new (ChSpec.mk w.heap.size 3 3 r1 N (valL st pre) (.int .i64 z) [.int .i64 z]) (A0.tmps[20]?.getD undef) (A0.tmps[21]?.getD undef) (A0.tmps[22]?.getD undef) (A0.tmps[23]?.getD undef), rfl, ?_, (fun h => by cases h), ?_⟩
      · simp only [ChDyn.new, put_self]
      · exact ((Chains.nil Wr).add (ChSpec.mk w.heap.size 3 3 r1 N (valL st pre) (.int .i64 z) [.int .i64 z]) _ _ _ _ HO1.out (fun gk hg c hc => by cases hc)).add (ChSpec.mk w.heap.size 2 2 r0 N (hndL st pre) (.int .i64 h) [.int .i64 h]) _ _ _ _ HO0.out (fun gk hg c hc => by simp only [List.mem_cons, List.not_mem_nil, or_false] at hc; subst hc; exact fun hm => HDd.out.n01 gk hg (by simpa [ChDyn.new] using hm))
    case step =>
      rintro l a wx ⟨⟨cr0, cy0, cb0, ca0, cvr0, cvx0, cvb0, cva0, cu0⟩, ⟨cr1, cy1, cb1, ca1, cvr1, cvx1, cvb1, cva1, cu1⟩, rfl, rfl, HACH, HC⟩
      have hA0 := HA0.out
      subst hA0
      clear HA0
      have HE := HCELL.out _ _ _ HC
      clear HCELL
      have q0 : wx.cell? ⟨w.heap.size, 0, none⟩ = some r0 := by rw [cell_of_block HE.1]; rfl
      have q1 : wx.cell? ⟨w.heap.size + 1, 0, none⟩ = some r1 := by rw [cell_of_block HE.2]; rfl
      have hsz := HC.size
      by_cases hdone : ca0 = true ∧ ca1 = true
      · left
        obtain ⟨rfl, rfl⟩ := hdone
        obtain ⟨z1, z2, z3, g0, cap0, z4, hu0, own0⟩ := (Chains.at0 HC).done rfl
        dsimp only at z1 z2 z3 z4
        subst z1 z2 z3 z4
        obtain ⟨z1, z2, z3, g1, cap1, z4, hu1, own1⟩ := (Chains.at1 HC).done rfl
        dsimp only at z1 z2 z3 z4
        subst z1 z2 z3 z4
        refine wpAnyIn_fuel 2 (by kernel_rfl) ?_
        simp only [Act.put, List.setIfInBounds_toArray, List.set_cons_zero, List.set_cons_succ]
        have fz0 : ∀ j, wx.frozen? ⟨w.heap.size, j, none⟩ = false := fun j => unfrozen_of_block HE.1 j
        have fz1 : ∀ j, wx.frozen? ⟨w.heap.size + 1, j, none⟩ = false := fun j => unfrozen_of_block HE.2 j
        have HCC := Lib.hid HC
        clear HC
        refine wpAnyIn_ready (rs := [8]) (by kernel_rfl) (by simp) (AllReadyIn.cons rfl (fun K hK => ?_) AllReadyIn.nil)
        go_simp
        refine hK _ _ ?_
        clear hK K
        refine wpAnyIn_ready (rs := [9]) (by kernel_rfl) (by simp) (AllReadyIn.cons rfl (fun K hK => ?_) AllReadyIn.nil)
        go_simp
        refine hK _ _ ?_
        clear hK K
        refine wpAnyIn_done (by kernel_rfl) ?_ _
        gi_wp2
        have n1 : decide ((1024 : Int) < (N : Int) + 1) = false := by simp; omega
        have n2 : decide (1024 < N + 1) = false := by simp; omega
        gi_wp2
        have hk0 : KeepsFrom w2.heap.size W Wr := by rw [← HWD.out]; exact ⟨Nat.le_refl _, fun _ _ _ h _ => h⟩
        refine ⟨(hk0.trans (HDd.out.keeps HCC.out _)).trans (((KeepsOthers.setCell _ _ _).trans (KeepsOthers.setCell _ _ _)).from _), trivial, _, _, WD.next HDd.out HNN.out ⟨hpl, hql⟩ HH.out HZ.out HCC.out own0 own1 hu0 hu1⟩
      · right
        refine ⟨openOps_pos (i := 9) (by decide) rfl, fun i hi => ?_⟩
        obtain ⟨ho, hlt⟩ := ready_open hi
        have hlt2 : i < 10 := hlt
        rcases (by omega : i = 0 ∨ i = 1 ∨ i = 2 ∨ i = 3 ∨ i = 4 ∨ i = 5 ∨ i = 6 ∨ i = 7 ∨ i = 8 ∨ i = 9) with rfl | rfl | rfl | rfl | rfl | rfl | rfl | rfl | rfl | rfl
        · refine wpOpIn_step rfl (fun K hK => ?_)
          simp only [Act.put, List.setIfInBounds_toArray, List.set_cons_zero, List.set_cons_succ]
          go_simp
          refine hK _ _ ⟨⟨true, cy0, cb0, ca0, ((ChSpec.mk w.heap.size 2 2 r0 N (hndL st pre) (.int .i64 h) [.int .i64 h])).row, cvx0, cvb0, cva0, cu0⟩, ⟨cr1, cy1, cb1, ca1, cvr1, cvx1, cvb1, cva1, cu1⟩, ?_, ?_, HACH, ?_⟩
          · rfl
          · simp only [Act.put, List.setIfInBounds_toArray, List.set_cons_zero, List.set_cons_succ]
          · exact Chains.r0 HC
        · refine wpOpIn_step rfl (fun K hK => ?_)
          simp only [Act.put, List.setIfInBounds_toArray, List.set_cons_zero, List.set_cons_succ]
          go_simp
          refine hK _ _ ⟨⟨cr0, true, cb0, ca0, cvr0, ((ChSpec.mk w.heap.size 2 2 r0 N (hndL st pre) (.int .i64 h) [.int .i64 h])).x, cvb0, cva0, cu0⟩, ⟨cr1, cy1, cb1, ca1, cvr1, cvx1, cvb1, cva1, cu1⟩, ?_, ?_, HACH, ?_⟩
          · rfl
          · simp only [Act.put, List.setIfInBounds_toArray, List.set_cons_zero, List.set_cons_succ]
          · exact Chains.y0 HC
        · have hY : cy0 = true := needs_ready (j := 1) hi (by kernel_rfl)
          have hb0 : cb0 = false := ho
          have hx := (Chains.at0 HC).val hY
          have ha0 : ca0 = false := by
            cases hq : ca0 with
            | false => rfl
            | true => have := ((Chains.at0 HC).done hq).2.2.1; dsimp only at this; rw [hb0] at this; cases this
          dsimp only at hx
          subst hx
          refine wpOpIn_step rfl (fun K hK => ?_)
          simp only [Act.put, List.setIfInBounds_toArray, List.set_cons_zero, List.set_cons_succ]
          go_simp
          refine hK _ _ ⟨⟨cr0, cy0, true, ca0, cvr0, ((ChSpec.mk w.heap.size 2 2 r0 N (hndL st pre) (.int .i64 h) [.int .i64 h])).x, (.slice (some ⟨wx.heap.size, 0, none⟩) 1 1), cva0, (wx.heap.size :: cu0)⟩, ⟨cr1, cy1, cb1, ca1, cvr1, cvx1, cvb1, cva1, cu1⟩, ?_, ?_, HACH, ?_⟩
          · rfl
          · simp only [Act.put, List.setIfInBounds_toArray, List.set_cons_zero, List.set_cons_succ]
          · exact Chains.b0 HC ha0 hY
        · have hR : cr0 = true := needs_ready (j := 0) hi (by kernel_rfl)
          have hbq : cb0 = true := needs_ready (j := 2) hi (by kernel_rfl)
          have ha0 : ca0 = false := ho
          have hat0 := Chains.at0 HC
          have hr := (hat0.row hR).symm
          obtain ⟨gl, hvb, hgu, hlit⟩ := hat0.lit hbq ha0
          dsimp only at hr hvb
          subst hr hvb
          refine wpOpIn_step rfl (fun K hK => ?_)
          simp only [Act.put, List.setIfInBounds_toArray, List.set_cons_zero, List.set_cons_succ]
          refine (if_pos (show Region.wanted _ _ = true from rfl)).mpr ?_
          refine wpIn_append_lies wx (.tmp 16) (.tmp 18) 51 (by rfl) w.heap.size 2 i0 (.int .i64 0) 1 8 Tryd.underlying51 hi0 hz0 hs0 hb0 rfl (by decide) ((ChSpec.mk w.heap.size 2 2 r0 N (hndL st pre) (.int .i64 h) [.int .i64 h])).row N ((ChSpec.mk w.heap.size 2 2 r0 N (hndL st pre) (.int .i64 h) [.int .i64 h])).xs (by rfl) (hat0.own ha0) ⟨gl, 0, none⟩ 1 1 ((ChSpec.mk w.heap.size 2 2 r0 N (hndL st pre) (.int .i64 h) [.int .i64 h])).xc (by rfl) (by rfl) (World.news_of_block hlit) (by intro u hu; simp at hu; subst hu; rfl) (by decide) (by simp only [maxLen]; omega) (by omega) (by have := HDd.out.k.size; omega) wx.heap.size rfl ?_
          intro gn cap w1 hown hgrow hat hlt1
          refine hK _ _ ⟨⟨cr0, cy0, cb0, true, ((ChSpec.mk w.heap.size 2 2 r0 N (hndL st pre) (.int .i64 h) [.int .i64 h])).row, cvx0, (.slice (some ⟨gl, 0, none⟩) 1 1), (.slice (some ⟨gn, 0, none⟩) (N + 1) cap), (gn :: cu0)⟩, ⟨cr1, cy1, cb1, ca1, cvr1, cvx1, cvb1, cva1, cu1⟩, ?_, ?_, (fun _ => rfl), ?_⟩
          · rfl
          · simp only [List.getElem_toArray, List.getElem_cons_succ, List.getElem_cons_zero, Act.put, List.setIfInBounds_toArray, List.set_cons_zero, List.set_cons_succ]
          · exact Chains.a0 HC hR hbq hown hgrow hat hlt1
        · refine wpOpIn_step rfl (fun K hK => ?_)
          simp only [Act.put, List.setIfInBounds_toArray, List.set_cons_zero, List.set_cons_succ]
          go_simp
          refine hK _ _ ⟨⟨cr0, cy0, cb0, ca0, cvr0, cvx0, cvb0, cva0, cu0⟩, ⟨true, cy1, cb1, ca1, ((ChSpec.mk w.heap.size 3 3 r1 N (valL st pre) (.int .i64 z) [.int .i64 z])).row, cvx1, cvb1, cva1, cu1⟩, ?_, ?_, HACH, ?_⟩
          · rfl
          · simp only [Act.put, List.setIfInBounds_toArray, List.set_cons_zero, List.set_cons_succ]
          · exact Chains.r1 HC
        · refine wpOpIn_step rfl (fun K hK => ?_)
          simp only [Act.put, List.setIfInBounds_toArray, List.set_cons_zero, List.set_cons_succ]
          go_simp
          refine hK _ _ ⟨⟨cr0, cy0, cb0, ca0, cvr0, cvx0, cvb0, cva0, cu0⟩, ⟨cr1, true, cb1, ca1, cvr1, ((ChSpec.mk w.heap.size 3 3 r1 N (valL st pre) (.int .i64 z) [.int .i64 z])).x, cvb1, cva1, cu1⟩, ?_, ?_, HACH, ?_⟩
          · rfl
          · simp only [Act.put, List.setIfInBounds_toArray, List.set_cons_zero, List.set_cons_succ]
          · exact Chains.y1 HC
        · have hY : cy1 = true := needs_ready (j := 5) hi (by kernel_rfl)
          have hb0 : cb1 = false := ho
          have hx := (Chains.at1 HC).val hY
          have ha0 : ca1 = false := by
            cases hq : ca1 with
            | false => rfl
            | true => have := ((Chains.at1 HC).done hq).2.2.1; dsimp only at this; rw [hb0] at this; cases this
          dsimp only at hx
          subst hx
          refine wpOpIn_step rfl (fun K hK => ?_)
          simp only [Act.put, List.setIfInBounds_toArray, List.set_cons_zero, List.set_cons_succ]
          go_simp
          refine hK _ _ ⟨⟨cr0, cy0, cb0, ca0, cvr0, cvx0, cvb0, cva0, cu0⟩, ⟨cr1, cy1, true, ca1, cvr1, ((ChSpec.mk w.heap.size 3 3 r1 N (valL st pre) (.int .i64 z) [.int .i64 z])).x, (.slice (some ⟨wx.heap.size, 0, none⟩) 1 1), cva1, (wx.heap.size :: cu1)⟩, ?_, ?_, HACH, ?_⟩
          · rfl
          · simp only [Act.put, List.setIfInBounds_toArray, List.set_cons_zero, List.set_cons_succ]
          · exact Chains.b1 HC ha0 hY
        · have hR : cr1 = true := needs_ready (j := 4) hi (by kernel_rfl)
          have hbq : cb1 = true := needs_ready (j := 6) hi (by kernel_rfl)
          have ha0 : ca1 = false := ho
          have hat0 := Chains.at1 HC
          have hr := (hat0.row hR).symm
          obtain ⟨gl, hvb, hgu, hlit⟩ := hat0.lit hbq ha0
          dsimp only at hr hvb
          subst hr hvb
          refine wpOpIn_step rfl (fun K hK => ?_)
          simp only [Act.put, List.setIfInBounds_toArray, List.set_cons_zero, List.set_cons_succ]
          refine (if_pos (show Region.wanted _ _ = true from rfl)).mpr ?_
          refine wpIn_append_lies wx (.tmp 20) (.tmp 22) 32 (by rfl) w.heap.size 3 i1 (.int .i64 0) 1 8 Tryd.underlying32 hi1 hz1 hs1 hb1 rfl (by decide) ((ChSpec.mk w.heap.size 3 3 r1 N (valL st pre) (.int .i64 z) [.int .i64 z])).row N ((ChSpec.mk w.heap.size 3 3 r1 N (valL st pre) (.int .i64 z) [.int .i64 z])).xs (by rfl) (hat0.own ha0) ⟨gl, 0, none⟩ 1 1 ((ChSpec.mk w.heap.size 3 3 r1 N (valL st pre) (.int .i64 z) [.int .i64 z])).xc (by rfl) (by rfl) (World.news_of_block hlit) (by intro u hu; simp at hu; subst hu; rfl) (by decide) (by simp only [maxLen]; omega) (by omega) (by have := HDd.out.k.size; omega) wx.heap.size rfl ?_
          intro gn cap w1 hown hgrow hat hlt1
          have hprev : ca0 = true := needs_ready (j := 3) hi (by kernel_rfl)
          refine hK _ _ ⟨⟨cr0, cy0, cb0, ca0, cvr0, cvx0, cvb0, cva0, cu0⟩, ⟨cr1, cy1, cb1, true, ((ChSpec.mk w.heap.size 3 3 r1 N (valL st pre) (.int .i64 z) [.int .i64 z])).row, cvx1, (.slice (some ⟨gl, 0, none⟩) 1 1), (.slice (some ⟨gn, 0, none⟩) (N + 1) cap), (gn :: cu1)⟩, ?_, ?_, (fun _ => hprev), ?_⟩
          · rfl
          · simp only [List.getElem_toArray, List.getElem_cons_succ, List.getElem_cons_zero, Act.put, List.setIfInBounds_toArray, List.set_cons_zero, List.set_cons_succ]
          · exact Chains.a1 HC hR hbq hown hgrow hat hlt1
        · have hA1 : ca1 = true := needs_ready (j := 7) hi (by kernel_rfl)
          have hA0 : ca0 = true := HACH hA1
          exact absurd ⟨hA0, hA1⟩ hdone
        · exact absurd (show false = true from needs_ready (j := 8) hi (by kernel_rfl)) (by decide)
  case done =>
    rintro D' xs W hD' hxs ⟨r0, r1, hD⟩ hK
    have hxe : xs = alvL st st.length := hxs
    subst hxe
    have o0 := hD.o0
    have o1 := hD.o1
    rw [HNA.out] at o0 o1
    obtain ⟨a0, k0, rfl⟩ := own_slice o0
    obtain ⟨a1, k1, rfl⟩ := own_slice o1
    have c4 := (show W.cell? ⟨w.heap.size, 0, none⟩ = some (.slice a0 NN k0) by rw [cell_of_block hD.b4]; rfl)
    have c5 := (show W.cell? ⟨w.heap.size + 1, 0, none⟩ = some (.slice a1 NN k1) by rw [cell_of_block hD.b5]; rfl)
    have HD := Lib.hid hD
    have HK := Lib.hid hK
    have HO0 := Lib.hid o0
    have HO1 := Lib.hid o1
    clear hD hK o0 o1 hxs
    gi_wp2
    refine code_noPanic' ?_
    gi_region_with (fail)
    all_goals
      simp only [noPanic']
      gi_wp2
      have hK' : W.drew.heap[D']? = some (.deferred (some [])) := HK.out
      refine ⟨by simp, .inl ⟨_, _, rfl, run_takeDeferred hK', ?_⟩⟩
      have hg := grownBy_putObj' W.drew D' (.deferred none)
      have hr : ∀ r, some D' = some r → ∃ o : Obj, W.drew.heap[r]? = some o ∧ o.isCells = false := fun r e => by cases e; exact ⟨_, hK', rfl⟩
      refine ⟨.tuple #[.slice a0 NN k0, .slice a1 NN k1], ?_, a0, k0, a1, k1, rfl, own_stays' (own_below HO0.out (Below.refl _ _).drew) hg hr, own_stays' (own_below HO1.out (Below.refl _ _).drew) hg hr, (HD.out.k.trans ((Below.refl w.heap.size W).drew)).trans (belowK_b (w := w) (Nat.le_refl _) _ D' _ _ (by have := HWD0.out.k.size; omega) hK' rfl rfl)⟩
      simp [results, Tryd.f25, go_sem]
end
end Go.Proofs.YtpaecmpiokkdnaaDoor
