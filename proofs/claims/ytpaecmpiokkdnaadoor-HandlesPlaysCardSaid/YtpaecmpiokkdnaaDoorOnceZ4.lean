/- Handles: Copy and Load of the reference. | Handles: Same of the reference: two states that read alike. | Handles: the reference's Find, Get, Len, over states that read as lists of slots. | Handles: the reference's Len and Room, over states that read as lists of slots. | Rows of the call's own: a cell is stored in place. No program. | Handles: HandlesOnce: what lies in memory; the contract of handle. -/
import Derived.Test.YtpaecmpiokkdnaaDoorOnceZ2
import Derived.Test.YtpaecmpiokkdnaaDoorOnceZ3
import Derived.RegionTactic
namespace Go.Proofs.YtpaecmpiokkdnaaDoor
open Go.RowKit Go.Sort Go.Joins
attribute [local go_sem] cell_grow frozen_grow size_grow

def rowF (n : Nat) (f : Nat → Value) : List Value := (List.range n).map f
theorem rowF_length (n : Nat) (f : Nat → Value) : (rowF n f).length = n := by simp [rowF]
theorem rowF_get {n : Nat} {f : Nat → Value} {j : Nat} (h : j < n) : (rowF n f)[j]? = some (f j) := by simp [rowF, h]
theorem rowF_succ (n : Nat) (f : Nat → Value) : rowF (n + 1) f = rowF n f ++ [f n] := by simp [rowF, List.range_succ]
theorem rowF_cells {w : World} {n b o : Nat} {f : Nat → Value} (h : ∀ j, j < n → w.cell? ⟨b, o + j, none⟩ = some (f j)) : ∀ j u, (rowF n f)[j]? = some u → w.cell? ((⟨b, o, none⟩ : Addr).add j) = some u := by
  intro j u hu
  have hj : j < n := by have := (List.getElem?_eq_some_iff.1 hu).1; rwa [rowF_length] at this
  rw [rowF_get hj] at hu
  cases hu
  rw [Addr.add_lit]; exact h j hj
theorem rowF_one {n : Nat} {f : Nat → Value} (h : ∀ j, (f j).oneCell' = true) : ∀ u ∈ rowF n f, u.oneCell' = true := by
  intro u hu
  obtain ⟨j, _, rfl⟩ := List.mem_map.1 hu
  exact h j
theorem SlF.of_row {w : World} {base n : Nat} {e : TypeId} {a : Option Addr} {cap : Nat} {f : Nat → Value} (h : w.ownsRow base e 1 (.slice a n cap) n (rowF n f)) : SlF w a n f := SlF.of_own h fun _ hj => rowF_get hj

def IsE (v : Value) : Prop := ∃ ao, v = .slice ao 0 0
def OwnV (B : Nat) (e : TypeId) (n : Nat) (xs : List Value) (v : Value) (w : World) : Prop := ∃ a k, v = .slice a n k ∧ w.ownsRow B e 1 (.slice a n k) n xs
theorem OwnV.mk {B : Nat} {e : TypeId} {n : Nat} {xs : List Value} {v : Value} {w : World} (h : w.ownsRow B e 1 v n xs) : OwnV B e n xs v w := by
  obtain ⟨a, k, rfl⟩ := own_slice h
  exact ⟨a, k, rfl, h⟩
theorem OwnV.below {B : Nat} {e : TypeId} {n : Nat} {xs : List Value} {v : Value} {w w' : World} (h : OwnV B e n xs v w) (hb : Below w.heap.size w w') : OwnV B e n xs v w' := by
  obtain ⟨a, k, e, h⟩ := h
  exact ⟨a, k, e, own_below h hb⟩
def TwoV (B n : Nat) (f g : Nat → Value) (v : Value) (w : World) : Prop := ∃ a k b l, v = .agg #[.slice a n k, .slice b n l, .slice none 0 0] ∧ w.ownsRow B 3 1 (.slice a n k) n (rowF n f) ∧ w.ownsRow B 4 1 (.slice b n l) n (rowF n g)
theorem TwoV.below {B n : Nat} {f g : Nat → Value} {v : Value} {w w' : World} (h : TwoV B n f g v w) (hb : Below w.heap.size w w') : TwoV B n f g v w' := by
  obtain ⟨a, k, b, l, e, h1, h2⟩ := h
  exact ⟨a, k, b, l, e, own_below h1 hb, own_below h2 hb⟩
def BoxV (B : Nat) (v : Value) (w : World) : Prop := ∃ g, v = .pointer (some ⟨g, 0, none⟩) ∧ B ≤ g ∧ w.heap[g]? = some (.cells #[.slice none 0 0, .slice none 0 0, .slice none 0 0] 35 (0, 0))
theorem BoxV.below {B : Nat} {v : Value} {w w' : World} (h : BoxV B v w) (hb : Below w.heap.size w w') : BoxV B v w' := by
  obtain ⟨g, e, h1, h2⟩ := h
  exact ⟨g, e, h1, (hb.block _ (blk_lt h2)).trans h2⟩

/-- what is copied of the values -/
def cV (A : Nat → Bool) (V : Nat → Value) : Nat → Value := fun j => if A j then V j else .int .i64 0
structure CpAt (w wr : World) (n : Nat) (G : Nat → Int) (A : Nat → Bool) (V : Nat → Value) (r0 r1 r2 : Value) (Bo : Nat) (s0 s1 rv : Value) (i : Nat) : Prop where
  inb : wr.heap[w.heap.size]? = some (.cells #[r0, r1, r2] 35 (0, 0))
  res : wr.heap[w.heap.size + 1]? = some (.cells #[.slice none 0 0, .slice none 0 0, .slice none 0 0] 35 (0, 0))
  out : wr.heap[Bo]? = some (.cells #[s0, s1, rv] 35 (0, 0))
  o0 : wr.ownsRow (w.heap.size + 2) 3 1 s0 n (rowF n (zI G))
  o1 : wr.ownsRow (w.heap.size + 2) 4 1 s1 n (rowF n (zB A))
  o2 : wr.ownsRow (w.heap.size + 2) 3 1 rv i (rowF i (cV A V))
  n02 : ∀ g, s0.ownBlock = some g → rv.ownBlock ≠ some g
  hB : w.heap.size + 2 ≤ Bo
  k : Below w.heap.size w wr
theorem CpAt.next {w wr w1 : World} {n : Nat} {G : Nat → Int} {A : Nat → Bool} {V : Nat → Value} {r0 r1 r2 : Value} {Bo : Nat} {s0 s1 rv x : Value} {i : Nat} (h : CpAt w wr n G A V r0 r1 r2 Bo s0 s1 rv i) {T : TypeId} {g cap : Nat}
    (hx : cV A V i = x) (own : w1.ownsRow (w.heap.size + 2) 3 1 (.slice (some ⟨g, 0, none⟩) (i + 1) cap) (i + 1) (rowF i (cV A V) ++ [x])) (hg : (wr.alloc (.cells #[x] T)).grownBy w1 rv.ownBlock) (hat : rv.ownBlock = some g ∨ g = wr.heap.size + 1) :
    CpAt w (w1.setCell ⟨Bo, 2, none⟩ (.slice (some ⟨g, 0, none⟩) (i + 1) cap)) n G A V r0 r1 r2 Bo s0 s1 (.slice (some ⟨g, 0, none⟩) (i + 1) cap) (i + 1) := by
  have hA : ∀ k, k < wr.heap.size → (wr.alloc (.cells #[x] T)).heap[k]? = wr.heap[k]? := fun k hk => Below.heap_alloc wr _ _ hk
  have hW : ∀ k, k < wr.heap.size → rv.ownBlock ≠ some k → w1.heap[k]? = wr.heap[k]? := fun k hk hn => (hg.block k (by simp; omega) (fun e => hn e.symm)).trans (hA k hk)
  have nT : rv.ownBlock ≠ some Bo := own_ne h.o2 h.out (by decide)
  have n0 : s0.ownBlock ≠ some Bo := own_ne h.o0 h.out (by decide)
  have n1 : s1.ownBlock ≠ some Bo := own_ne h.o1 h.out (by decide)
  have nl : ∀ k, k < w.heap.size + 2 → rv.ownBlock ≠ some k := fun k hk e => by have := (h.o2.lt k e).1; omega
  have b0 := blk_lt h.inb
  have b1 := blk_lt h.res
  have b2 := blk_lt h.out
  have hBB := h.hB
  have hgB : (Value.slice (some ⟨g, 0, none⟩) (i + 1) cap).ownBlock ≠ some Bo := by
    intro e
    have e : g = Bo := by simpa [Value.ownBlock] using e
    rcases hat with e1 | e1
    · exact nT (e1.trans (congrArg some e))
    · omega
  have c1 : ∀ b, s1.ownBlock = some b → w1.heap[b]? = wr.heap[b]? := fun b hb => hW b (h.o1.lt b hb).2 (fun e => by
    rcases h.o1.2 with ⟨e1, _⟩ | ⟨b', _, _, e1, _, e2, _⟩
    · rw [e1] at hb; simp [Value.ownBlock] at hb
    · have : b' = b := by rw [e1] at hb; simpa [Value.ownBlock] using hb
      subst this
      exact own_ne h.o2 e2 (by decide) e)
  refine ⟨?_, ?_, ?_, ?_, ?_, ?_, ?_, h.hB, ?_⟩
  · rw [Below.heap_setCell _ _ _ _ (by dsimp only; omega), hW _ (by omega) (nl _ (by omega))]; exact h.inb
  · rw [Below.heap_setCell _ _ _ _ (by dsimp only; omega), hW _ (by omega) (nl _ (by omega))]; exact h.res
  · rw [setCell_block ((hW _ b2 nT).trans h.out) _]; simp
  · exact ownsRow_setCell_other (own_same h.o0 fun b hb => hW b (h.o0.lt b hb).2 (h.n02 b hb)) (a := ⟨Bo, 2, none⟩) n0 _
  · exact ownsRow_setCell_other (own_same h.o1 c1) (a := ⟨Bo, 2, none⟩) n1 _
  · rw [rowF_succ, hx]; exact ownsRow_setCell_other own (a := ⟨Bo, 2, none⟩) hgB _
  · intro b hb e
    have e : g = b := by simpa [Value.ownBlock] using e
    rcases hat with e1 | e1
    · exact h.n02 b hb (e1.trans (congrArg some e))
    · have := (h.o0.lt b hb).2; omega
  · have hk : Below w.heap.size w w1 := by
      refine h.k.trans ?_
      have ha := (Below.refl wr.heap.size wr).alloc (Nat.le_refl _) (.cells #[x] T)
      have hs := h.k.size
      exact (ha.mono hs).grown hg (by simp; omega) (by intro r hr; have := (h.o2.lt r hr).1; omega)
    exact hk.setCell (p := ⟨Bo, 2, none⟩) (by dsimp only; omega) _

theorem CpAt.far {w wr w1 : World} {n : Nat} {G : Nat → Int} {A : Nat → Bool} {V : Nat → Value} {r0 r1 r2 : Value} {Bo : Nat} {s0 s1 rv x : Value} {i : Nat} (h : CpAt w wr n G A V r0 r1 r2 Bo s0 s1 rv i) {T : TypeId} (hg : (wr.alloc (.cells #[x] T)).grownBy w1 rv.ownBlock) : w1.heap[Bo]? = wr.heap[Bo]? := by
  have b2 := blk_lt h.out
  exact (hg.block Bo (by simp; omega) (fun e => own_ne h.o2 h.out (by decide) e.symm)).trans (Below.heap_alloc wr _ _ b2)
theorem info_int' : (Tryd.prog.info? 3).map (fun i => (i.zero, i.size, i.bytes)) = some (some (.int .i64 0), 1, 8) := by kernel_rfl
theorem info_bool' : (Tryd.prog.info? 4).map (fun i => (i.zero, i.size, i.bytes)) = some (some (.bool false), 1, 1) := by kernel_rfl

/-- a copy of new memory -/
structure OA (w : World) (B n : Nat) (f0 f1 f2 : Nat → Value) (r0 r1 r2 : Value) : Prop where
  o0 : w.ownsRow B 3 1 r0 n (rowF n f0)
  o1 : w.ownsRow B 4 1 r1 n (rowF n f1)
  o2 : w.ownsRow B 3 1 r2 n (rowF n f2)
  n02 : ∀ g, r0.ownBlock = some g → r2.ownBlock ≠ some g

set_option maxRecDepth 100000 in
set_option maxHeartbeats 6400000 in
theorem copy_ok (w : World) {n : Nat} {ga aa va : Option Addr} {gc ac vc : Nat} {G : Nat → Int} {A : Nat → Bool} {V : Nat → Value} (hG0 : SlF w ga n (zI G)) (hA0 : SlF w aa n (zB A)) (hV0 : SlF w va n V) (hVf : ∀ j, ∃ x : Int, V j = .int .i64 x) (h1 : 1 ≤ n) (h2 : n ≤ 1024) :
    Calls Tryd.prog 56 #[.agg #[.slice ga n gc, .slice aa n ac, .slice va n vc]] w fun e w' => ∃ a0 k0 a1 k1 a2 k2, e = .returned (.agg #[.slice a0 n k0, .slice a1 n k1, .slice a2 n k2]) ∧
      OA w' (w.heap.size + 2) n (zI G) (zB A) (cV A V) (.slice a0 n k0) (.slice a1 n k1) (.slice a2 n k2) ∧ Below w.heap.size w w' := by
  obtain ⟨i0, hi0, hz0, hs0, hb0⟩ := info_parts info_int'
  obtain ⟨i1, hi1, hz1, hs1, hb1⟩ := info_parts info_bool'
  have bb := (below_box0 w (.cells #[.slice ga n gc, .slice aa n ac, .slice va n vc] 35)).trans ((below_box0 (w.alloc (.cells #[.slice ga n gc, .slice aa n ac, .slice va n vc] 35)) (.cells #[.slice none 0 0, .slice none 0 0, .slice none 0 0] 35)).mono (by simp))
  have HG0 := Lib.hid (hG0.below bb)
  have HA1 := Lib.hid (hA0.below bb)
  have HBB := Lib.hid bb
  have HGw := Lib.hid hG0
  have HAw := Lib.hid hA0
  have HVw := Lib.hid hV0
  clear hG0 hA0 hV0 bb
  go_enter Tryd.func56, Tryd.ntmps56
  go_wp2
  refine wp_region_any (by kernel_rfl) ?_
  change wpAny _ _ _ _ _ _ _ (World.drew _)
  refine wpAny_takeD 1 7 (.pointer (some ⟨w.heap.size, 0, none⟩)) rfl rfl (by kernel_rfl) (by kernel_rfl) (by kernel_rfl) (fun _ _ _ h => h) (by rfl) (fun w => by go_simp) ?_
  try simp only [Act.put, List.setIfInBounds_toArray, List.set_cons_zero, List.set_cons_succ]
  refine wpAny_takeD 5 11 (.pointer (some ⟨w.heap.size, 1, none⟩)) rfl rfl (by kernel_rfl) (by kernel_rfl) (by kernel_rfl) (fun _ _ _ h => h) (by rfl) (fun w => by go_simp) ?_
  try simp only [Act.put, List.setIfInBounds_toArray, List.set_cons_zero, List.set_cons_succ]
  generalize hWd : World.drew _ = W
  have HWD := Lib.hid hWd
  clear hWd
  have HKW : Hid (Below (w.heap.size + 2) ((w.alloc (.cells #[.slice ga n gc, .slice aa n ac, .slice va n vc] 35)).alloc (.cells #[.slice none 0 0, .slice none 0 0, .slice none 0 0] 35)) W) := Lib.hid (by rw [← HWD.out]; exact ((Below.refl _ _).drew))
  have HSZ : Hid (W.heap.size = w.heap.size + 2) := Lib.hid (by rw [← HWD.out]; simp)
  have HQ0 : Hid (W.cell? ⟨w.heap.size, 0, none⟩ = some (.slice ga n gc)) := Lib.hid (by rw [← HWD.out]; simp [go_sem])
  have HQ1 : Hid (W.cell? ⟨w.heap.size, 1, none⟩ = some (.slice aa n ac)) := Lib.hid (by rw [← HWD.out]; simp [go_sem])
  have HG := Lib.hid (show SlF W ga n (zI G) from HG0.out.below (by rw [← HWD.out]; exact (Below.refl _ _).drew))
  have HA := Lib.hid (show SlF W aa n (zB A) from HA1.out.below (by rw [← HWD.out]; exact (Below.refl _ _).drew))
  refine wpAny_named (fun A0 hA0 => ?_)
  have HA0 := Lib.hid hA0
  clear hA0
  refine wpAny_inv (fun l a wx => ∃ (f0 f2 f3 f4 f6 f7 f8 f9 : Bool) (v0 v2 v3 v4 v6 v7 v8 v9 : Value), l = #[f0, true, f2, f3, f4, true, f6, f7, f8, f9, false] ∧ a = ((((((((A0.put (some 6) v0).put (some 8) v2).put (some 9) v3).put (some 10) v4).put (some 12) v6).put (some 13) v7).put (some 14) v8).put (some 3) v9) ∧ (f0 = true → IsE v0) ∧ (f2 = true → v2 = (.slice ga n gc)) ∧ (f3 = true → OwnV W.heap.size 3 n (rowF n (zI G)) v3 wx) ∧ (f4 = true → IsE v4) ∧ (f6 = true → v6 = (.slice aa n ac)) ∧ (f7 = true → OwnV W.heap.size 4 n (rowF n (zB A)) v7 wx) ∧ (f8 = true → TwoV W.heap.size n (zI G) (zB A) v8 wx) ∧ (f9 = true → BoxV W.heap.size v9 wx) ∧ Below W.heap.size W wx) (by kernel_rfl) (by rintro l a wx ⟨_, _, _, _, _, _, _, _, _, _, _, _, _, _, _, _, rfl, _⟩; rfl) ?step _ _ _ _ (by kernel_rfl) ?start
  case start =>
    refine ⟨false, false, false, false, false, false, false, false, (A0.tmps[6]?.getD undef), (A0.tmps[8]?.getD undef), (A0.tmps[9]?.getD undef), (A0.tmps[10]?.getD undef), (A0.tmps[12]?.getD undef), (A0.tmps[13]?.getD undef), (A0.tmps[14]?.getD undef), (A0.tmps[3]?.getD undef), rfl, ?_, (fun h => by cases h), (fun h => by cases h), (fun h => by cases h), (fun h => by cases h), (fun h => by cases h), (fun h => by cases h), (fun h => by cases h), (fun h => by cases h), Below.refl _ _⟩
    simp only [put_self]
  case step =>
    rintro l a wx ⟨f0, f2, f3, f4, f6, f7, f8, f9, v0, v2, v3, v4, v6, v7, v8, v9, rfl, rfl, P0, P2, P3, P4, P6, P7, P8, P9, HB⟩
    have hA0 := HA0.out
    subst hA0
    clear HA0
    by_cases hdone : f0 = true ∧ f2 = true ∧ f3 = true ∧ f4 = true ∧ f6 = true ∧ f7 = true ∧ f8 = true ∧ f9 = true
    · left
      obtain ⟨rfl, rfl, rfl, rfl, rfl, rfl, rfl, rfl⟩ := hdone
      refine wpAny_fuel 1 (by kernel_rfl) ?_
      simp only [Act.put, List.setIfInBounds_toArray, List.set_cons_zero, List.set_cons_succ]
      have h8 := P8 rfl
      have h9 := P9 rfl
      clear P0 P2 P3 P4 P6 P7 P8 P9
      obtain ⟨a3, k3, a7, k7, e8, o3, o7⟩ := h8
      obtain ⟨Bo, e9, hBo, hbo⟩ := h9
      subst e8 e9
      have p0 : wx.cell? ⟨Bo, 0, none⟩ = some (.slice none 0 0) := by rw [cell_of_block hbo]; rfl
      have p1 : wx.cell? ⟨Bo, 1, none⟩ = some (.slice none 0 0) := by rw [cell_of_block hbo]; rfl
      have p2 : wx.cell? ⟨Bo, 2, none⟩ = some (.slice none 0 0) := by rw [cell_of_block hbo]; rfl
      have fz : ∀ j, wx.frozen? ⟨Bo, j, none⟩ = false := fun j => unfrozen_of_block hbo j
      refine wpAny_ready (rs := [10]) (by kernel_rfl) (by simp) (AllReady.cons rfl (fun K hK => ?_) AllReady.nil)
      go_simp
      refine hK _ _ ?_
      clear hK K
      refine wpAny_done (by kernel_rfl) ?_ _
      go_wp2
      generalize hW2 : World.setCell _ _ _ = W2
      have HW2 := Lib.hid hW2
      clear hW2
      have HC0 : Hid (CpAt w W2 n G A V (.slice ga n gc) (.slice aa n ac) (.slice va n vc) Bo (.slice a3 n k3) (.slice a7 n k7) (.slice none 0 0) 0) := Lib.hid (by
        have hsz := HSZ.out
        have hin : W.heap[w.heap.size]? = some (.cells #[.slice ga n gc, .slice aa n ac, .slice va n vc] 35 (0, 0)) := (HKW.out.block _ (by omega)).trans ((Below.heap_alloc _ _ _ (by simp)).trans (heap_alloc_new w _))
        have hrs : W.heap[w.heap.size + 1]? = some (.cells #[.slice none 0 0, .slice none 0 0, .slice none 0 0] 35 (0, 0)) := (HKW.out.block _ (by omega)).trans (by
          have := heap_alloc_new (w.alloc (.cells #[.slice ga n gc, .slice aa n ac, .slice va n vc] 35)) (.cells #[.slice none 0 0, .slice none 0 0, .slice none 0 0] 35)
          rwa [World.size_alloc] at this)
        have m0 : (Value.slice a3 n k3).ownBlock ≠ some Bo := own_ne o3 hbo (by decide)
        have m1 : (Value.slice a7 n k7).ownBlock ≠ some Bo := own_ne o7 hbo (by decide)
        rw [← HW2.out]
        refine ⟨?_, ?_, ?_, ?_, ?_, World.ownsRow_nil _ _ _ _, fun g _ h => by simp [Value.ownBlock] at h, by omega, ?_⟩
        · rw [Below.heap_setCell _ _ _ _ (by dsimp only; omega), Below.heap_setCell _ _ _ _ (by dsimp only; omega), Below.heap_setCell _ _ _ _ (by dsimp only; omega), HB.block _ (by omega)]; exact hin
        · rw [Below.heap_setCell _ _ _ _ (by dsimp only; omega), Below.heap_setCell _ _ _ _ (by dsimp only; omega), Below.heap_setCell _ _ _ _ (by dsimp only; omega), HB.block _ (by omega)]; exact hrs
        · rw [setCell_block (setCell_block (setCell_block hbo _) _) _]; simp
        · exact ownsRow_le (ownsRow_setCell_other (ownsRow_setCell_other (ownsRow_setCell_other o3 (a := ⟨Bo, 0, none⟩) m0 _) (a := ⟨Bo, 1, none⟩) m0 _) (a := ⟨Bo, 2, none⟩) m0 _) (by omega)
        · exact ownsRow_le (ownsRow_setCell_other (ownsRow_setCell_other (ownsRow_setCell_other o7 (a := ⟨Bo, 0, none⟩) m1 _) (a := ⟨Bo, 1, none⟩) m1 _) (a := ⟨Bo, 2, none⟩) m1 _) (by omega)
        · have hk : Below w.heap.size w wx := (HBB.out.trans (HKW.out.mono (by omega))).trans (HB.mono (by omega))
          exact ((hk.setCell (p := ⟨Bo, 0, none⟩) (by dsimp only; omega) _).setCell (p := ⟨Bo, 1, none⟩) (by dsimp only; omega) _).setCell (p := ⟨Bo, 2, none⟩) (by dsimp only; omega) _)
      clear HW2 hbo o3 o7 hBo HB p0 p1 p2 fz
      go_loopw [4] (fun x wr => ∃ (i : Nat) (rv : Value), i ≤ n ∧ x = .int .i64 i ∧ Hid (CpAt w wr n G A V (.slice ga n gc) (.slice aa n ac) (.slice va n vc) Bo (.slice a3 n k3) (.slice a7 n k7) rv i)) (fun x _ => n - (intOf x).toNat)
      case atStart => exact ⟨0, .slice none 0 0, Nat.zero_le _, rfl, HC0⟩
      case round =>
        clear HC0
        obtain ⟨i, rv, hi, rfl, HS⟩ := hrel
        have b0 := HS.out.inb
        have b1 := HS.out.out
        have b3 := HS.out.res
        obtain ⟨ra, rc, rfl⟩ := own_slice HS.out.o2
        have c1 : wr.cell? ⟨w.heap.size, 1, none⟩ = some (.slice aa n ac) := by rw [cell_of_block b0]; rfl
        have c2 : wr.cell? ⟨w.heap.size, 2, none⟩ = some (.slice va n vc) := by rw [cell_of_block b0]; rfl
        have d0 : wr.cell? ⟨Bo, 0, none⟩ = some (.slice a3 n k3) := by rw [cell_of_block b1]; rfl
        have d1 : wr.cell? ⟨Bo, 1, none⟩ = some (.slice a7 n k7) := by rw [cell_of_block b1]; rfl
        have d2 : wr.cell? ⟨Bo, 2, none⟩ = some (.slice ra i rc) := by rw [cell_of_block b1]; rfl
        by_cases hlt2 : i < n
        · have hlb : decide (i < n) = true := by simpa using hlt2
          have hli : (i : Int) < (n : Int) := by omega
          have hl0 : (0 : Int) ≤ (i : Int) := by omega
          obtain ⟨ab, ao, rfl, ca⟩ := (HAw.out.below HS.out.k).at_ hlt2
          obtain ⟨vb, vo, rfl, cv⟩ := (HVw.out.below HS.out.k).at_ hlt2
          obtain ⟨al, hal⟩ : ∃ al, A i = al := ⟨_, rfl⟩
          obtain ⟨v, hv⟩ := hVf i
          have hcv : cV A V i = if al then .int .i64 v else .int .i64 0 := by unfold cV; rw [hal, hv]
          dsimp only [zB] at ca
          rw [hal] at ca
          rw [hv] at cv
          have hBl := blk_lt b1
          have hown := HS.out.o2
          have HX := Lib.hid hcv
          clear hal hv hcv b0 b1 b3 hown
          cases al with
          | true =>
            go_wp2_with (at_builtin; refine wpList_append_lies _ rfl (.tmp 33) (.tmp 35) 32 rfl (w.heap.size + 2) 3 i0 (.int .i64 0) 1 8 Tryd.underlying32 hi0 hz0 hs0 hb0 rfl (by decide) (.slice ra i rc) i (rowF i (cV A V)) rfl (HS.out.o2.alloc _) ⟨wr.heap.size, 0, none⟩ 1 1 [.int .i64 v] rfl rfl (World.news_of_block (heap_alloc_new wr _)) (by intro u hu; simp at hu; subst hu; rfl) (by decide) (by simp only [maxLen]; omega) (by omega) (by have := HS.out.hB; simp; omega) (wr.heap.size + 1) (by simp) ?_)
            intro g cap w1 hown hgrow hat hlt1
            have e1 : w1.cell? ⟨Bo, 2, none⟩ = some (.slice ra i rc) := (World.cell?_of_block (HS.out.far hgrow)).trans d2
            have f1 : w1.frozen? ⟨Bo, 2, none⟩ = false := (World.frozen?_of_block (HS.out.far hgrow)).trans (unfrozen_of_block HS.out.out 2)
            have HN := Lib.hid (HS.out.next HX.out hown hgrow hat)
            clear hown hgrow hat
            go_wp2
            refine ⟨⟨i + 1, _, by omega, by simp, HN⟩, by simp [intOf]; omega⟩
          | false =>
            go_wp2_with (at_builtin; refine wpList_append_lies _ rfl (.tmp 33) (.tmp 35) 32 rfl (w.heap.size + 2) 3 i0 (.int .i64 0) 1 8 Tryd.underlying32 hi0 hz0 hs0 hb0 rfl (by decide) (.slice ra i rc) i (rowF i (cV A V)) rfl (HS.out.o2.alloc _) ⟨wr.heap.size, 0, none⟩ 1 1 [.int .i64 0] rfl rfl (World.news_of_block (heap_alloc_new wr _)) (by intro u hu; simp at hu; subst hu; rfl) (by decide) (by simp only [maxLen]; omega) (by omega) (by have := HS.out.hB; simp; omega) (wr.heap.size + 1) (by simp) ?_)
            intro g cap w1 hown hgrow hat hlt1
            have e1 : w1.cell? ⟨Bo, 2, none⟩ = some (.slice ra i rc) := (World.cell?_of_block (HS.out.far hgrow)).trans d2
            have f1 : w1.frozen? ⟨Bo, 2, none⟩ = false := (World.frozen?_of_block (HS.out.far hgrow)).trans (unfrozen_of_block HS.out.out 2)
            have HN := Lib.hid (HS.out.next HX.out hown hgrow hat)
            clear hown hgrow hat
            go_wp2
            refine ⟨⟨i + 1, _, by omega, by simp, HN⟩, by simp [intOf]; omega⟩
        · have hlb : decide (i < n) = false := by simpa using hlt2
          obtain rfl : i = n := by omega
          have r0 : wr.cell? ⟨w.heap.size + 1, 0, none⟩ = some (.slice none 0 0) := by rw [cell_of_block b3]; rfl
          have r1 : wr.cell? ⟨w.heap.size + 1, 1, none⟩ = some (.slice none 0 0) := by rw [cell_of_block b3]; rfl
          have r2 : wr.cell? ⟨w.heap.size + 1, 2, none⟩ = some (.slice none 0 0) := by rw [cell_of_block b3]; rfl
          have fz : ∀ j, wr.frozen? ⟨w.heap.size + 1, j, none⟩ = false := fun j => unfrozen_of_block b3 j
          clear b0 b1 b3
          go_wp2
          refine bodyPost_ret (v := .agg #[.slice a3 i k3, .slice a7 i k7, .slice ra i rc]) (by simp [results, Tryd.f56, go_sem, r0, r1, r2]) rfl ?_
          have hS := HS.out
          have hlt3 : ∀ j : Nat, (⟨w.heap.size + 1, j, none⟩ : Addr).block < w.heap.size + 2 := fun j => by dsimp only; omega
          exact ⟨a3, k3, a7, k7, ra, rc, rfl, ⟨ownsRow_setCell_below (ownsRow_setCell_below (ownsRow_setCell_below hS.o0 (hlt3 0) _) (hlt3 1) _) (hlt3 2) _, ownsRow_setCell_below (ownsRow_setCell_below (ownsRow_setCell_below hS.o1 (hlt3 0) _) (hlt3 1) _) (hlt3 2) _, ownsRow_setCell_below (ownsRow_setCell_below (ownsRow_setCell_below hS.o2 (hlt3 0) _) (hlt3 1) _) (hlt3 2) _, hS.n02⟩,
            ((hS.k.setCell (p := ⟨w.heap.size + 1, 0, none⟩) (by dsimp only; omega) _).setCell (p := ⟨w.heap.size + 1, 1, none⟩) (by dsimp only; omega) _).setCell (p := ⟨w.heap.size + 1, 2, none⟩) (by dsimp only; omega) _⟩
    · right
      refine ⟨openOps_pos (i := 10) (by decide) rfl, fun i hi => ?_⟩
      obtain ⟨ho, hlt⟩ := ready_open hi
      have hlt2 : i < 11 := hlt
      rcases (by omega : i = 0 ∨ i = 1 ∨ i = 2 ∨ i = 3 ∨ i = 4 ∨ i = 5 ∨ i = 6 ∨ i = 7 ∨ i = 8 ∨ i = 9 ∨ i = 10) with rfl | rfl | rfl | rfl | rfl | rfl | rfl | rfl | rfl | rfl | rfl
      · refine wpOp_step rfl (fun K hK => ?_)
        simp only [Act.put, List.setIfInBounds_toArray, List.set_cons_zero, List.set_cons_succ]
        go_simp
        have hb1 : Below wx.heap.size wx (wx.alloc (.cells #[] 3)) := below_box0 _ _
        refine hK _ _ ⟨true, f2, f3, f4, f6, f7, f8, f9, (.slice (some ⟨wx.heap.size, 0, none⟩) 0 0), v2, v3, v4, v6, v7, v8, v9, ?_, ?_, (fun _ => ⟨_, rfl⟩), (fun hf => (P2 hf)), (fun hf => ((P3 hf)).below hb1), (fun hf => (P4 hf)), (fun hf => (P6 hf)), (fun hf => ((P7 hf)).below hb1), (fun hf => ((P8 hf)).below hb1), (fun hf => ((P9 hf)).below hb1), below_tr HB hb1⟩
        · rfl
        · simp only [List.getElem_toArray, List.getElem_cons_succ, List.getElem_cons_zero, Act.put, List.setIfInBounds_toArray, List.set_cons_zero, List.set_cons_succ]
      · exact absurd (show true = false from ho) (by decide)
      · have q0 : wx.cell? ⟨w.heap.size, 0, none⟩ = some (.slice ga n gc) := (HB.cell (p := ⟨w.heap.size, 0, none⟩) (by have := HSZ.out; dsimp only; omega)).trans HQ0.out
        refine wpOp_step rfl (fun K hK => ?_)
        simp only [Act.put, List.setIfInBounds_toArray, List.set_cons_zero, List.set_cons_succ]
        go_simp
        have hb1 : Below wx.heap.size wx wx := Below.refl _ _
        refine hK _ _ ⟨f0, true, f3, f4, f6, f7, f8, f9, v0, (.slice ga n gc), v3, v4, v6, v7, v8, v9, ?_, ?_, (fun hf => (P0 hf)), (fun _ => rfl), (fun hf => ((P3 hf)).below hb1), (fun hf => (P4 hf)), (fun hf => (P6 hf)), (fun hf => ((P7 hf)).below hb1), (fun hf => ((P8 hf)).below hb1), (fun hf => ((P9 hf)).below hb1), below_tr HB hb1⟩
        · rfl
        · simp only [List.getElem_toArray, List.getElem_cons_succ, List.getElem_cons_zero, Act.put, List.setIfInBounds_toArray, List.set_cons_zero, List.set_cons_succ]
      · have n0 := P0 (needs_ready (j := 0) hi (by kernel_rfl))
        have n2 := P2 (needs_ready (j := 2) hi (by kernel_rfl))
        obtain ⟨e0, he0⟩ := n0
        obtain ⟨sb, so, hsa, hsc⟩ := HG.out.resolve_left (by omega)
        subst hsa
        refine wpOp_step rfl (fun K hK => ?_)
        simp only [Act.put, List.setIfInBounds_toArray, List.set_cons_zero, List.set_cons_succ]
        refine (if_pos (show Region.wanted _ _ = true from rfl)).mpr ?_
        refine wp_append_grows (by rfl) (.tmp 6) (.tmp 8) 32 (by rfl) 3 i0 (.int .i64 0) 1 8 Tryd.underlying32 hi0 hz0 hs0 hb0 rfl (by decide) e0 he0 ⟨sb, so, none⟩ n _ (rowF n (zI G)) n2 (by simp [rowF]) (rowF_cells (fun j hj => (HB.cell (p := ⟨sb, so + j, none⟩) (World.block_lt_of_cell? _ _ (hsc j hj))).trans (hsc j hj))) (rowF_one (fun j => rfl)) (by omega) (by simp only [maxLen]; omega) (by omega) ?_
        intro v1 w1 hown hgrow
        have hb1 : Below wx.heap.size wx w1 := below_grown hgrow
        refine hK _ _ ⟨f0, f2, true, f4, f6, f7, f8, f9, v0, v2, v1, v4, v6, v7, v8, v9, ?_, ?_, (fun hf => (P0 hf)), (fun hf => (P2 hf)), (fun _ => OwnV.mk (ownsRow_le hown HB.size)), (fun hf => (P4 hf)), (fun hf => (P6 hf)), (fun hf => ((P7 hf)).below hb1), (fun hf => ((P8 hf)).below hb1), (fun hf => ((P9 hf)).below hb1), below_tr HB hb1⟩
        · rfl
        · simp only [List.getElem_toArray, List.getElem_cons_succ, List.getElem_cons_zero, Act.put, List.setIfInBounds_toArray, List.set_cons_zero, List.set_cons_succ]
      · refine wpOp_step rfl (fun K hK => ?_)
        simp only [Act.put, List.setIfInBounds_toArray, List.set_cons_zero, List.set_cons_succ]
        go_simp
        have hb1 : Below wx.heap.size wx (wx.alloc (.cells #[] 4)) := below_box0 _ _
        refine hK _ _ ⟨f0, f2, f3, true, f6, f7, f8, f9, v0, v2, v3, (.slice (some ⟨wx.heap.size, 0, none⟩) 0 0), v6, v7, v8, v9, ?_, ?_, (fun hf => (P0 hf)), (fun hf => (P2 hf)), (fun hf => ((P3 hf)).below hb1), (fun _ => ⟨_, rfl⟩), (fun hf => (P6 hf)), (fun hf => ((P7 hf)).below hb1), (fun hf => ((P8 hf)).below hb1), (fun hf => ((P9 hf)).below hb1), below_tr HB hb1⟩
        · rfl
        · simp only [List.getElem_toArray, List.getElem_cons_succ, List.getElem_cons_zero, Act.put, List.setIfInBounds_toArray, List.set_cons_zero, List.set_cons_succ]
      · exact absurd (show true = false from ho) (by decide)
      · have q0 : wx.cell? ⟨w.heap.size, 1, none⟩ = some (.slice aa n ac) := (HB.cell (p := ⟨w.heap.size, 1, none⟩) (by have := HSZ.out; dsimp only; omega)).trans HQ1.out
        refine wpOp_step rfl (fun K hK => ?_)
        simp only [Act.put, List.setIfInBounds_toArray, List.set_cons_zero, List.set_cons_succ]
        go_simp
        have hb1 : Below wx.heap.size wx wx := Below.refl _ _
        refine hK _ _ ⟨f0, f2, f3, f4, true, f7, f8, f9, v0, v2, v3, v4, (.slice aa n ac), v7, v8, v9, ?_, ?_, (fun hf => (P0 hf)), (fun hf => (P2 hf)), (fun hf => ((P3 hf)).below hb1), (fun hf => (P4 hf)), (fun _ => rfl), (fun hf => ((P7 hf)).below hb1), (fun hf => ((P8 hf)).below hb1), (fun hf => ((P9 hf)).below hb1), below_tr HB hb1⟩
        · rfl
        · simp only [List.getElem_toArray, List.getElem_cons_succ, List.getElem_cons_zero, Act.put, List.setIfInBounds_toArray, List.set_cons_zero, List.set_cons_succ]
      · have n4 := P4 (needs_ready (j := 4) hi (by kernel_rfl))
        have n6 := P6 (needs_ready (j := 6) hi (by kernel_rfl))
        obtain ⟨e4, he4⟩ := n4
        obtain ⟨sb, so, hsa, hsc⟩ := HA.out.resolve_left (by omega)
        subst hsa
        refine wpOp_step rfl (fun K hK => ?_)
        simp only [Act.put, List.setIfInBounds_toArray, List.set_cons_zero, List.set_cons_succ]
        refine (if_pos (show Region.wanted _ _ = true from rfl)).mpr ?_
        refine wp_append_grows (by rfl) (.tmp 10) (.tmp 12) 33 (by rfl) 4 i1 (.bool false) 1 1 Tryd.underlying33 hi1 hz1 hs1 hb1 rfl (by decide) e4 he4 ⟨sb, so, none⟩ n _ (rowF n (zB A)) n6 (by simp [rowF]) (rowF_cells (fun j hj => (HB.cell (p := ⟨sb, so + j, none⟩) (World.block_lt_of_cell? _ _ (hsc j hj))).trans (hsc j hj))) (rowF_one (fun j => rfl)) (by omega) (by simp only [maxLen]; omega) (by omega) ?_
        intro v1 w1 hown hgrow
        have hb1 : Below wx.heap.size wx w1 := below_grown hgrow
        refine hK _ _ ⟨f0, f2, f3, f4, f6, true, f8, f9, v0, v2, v3, v4, v6, v1, v8, v9, ?_, ?_, (fun hf => (P0 hf)), (fun hf => (P2 hf)), (fun hf => ((P3 hf)).below hb1), (fun hf => (P4 hf)), (fun hf => (P6 hf)), (fun _ => OwnV.mk (ownsRow_le hown HB.size)), (fun hf => ((P8 hf)).below hb1), (fun hf => ((P9 hf)).below hb1), below_tr HB hb1⟩
        · rfl
        · simp only [List.getElem_toArray, List.getElem_cons_succ, List.getElem_cons_zero, Act.put, List.setIfInBounds_toArray, List.set_cons_zero, List.set_cons_succ]
      · have n3 := P3 (needs_ready (j := 3) hi (by kernel_rfl))
        have n7 := P7 (needs_ready (j := 7) hi (by kernel_rfl))
        obtain ⟨a3, k3, e3, o3⟩ := n3
        obtain ⟨a7, k7, e7, o7⟩ := n7
        subst e3 e7
        refine wpOp_step rfl (fun K hK => ?_)
        simp only [Act.put, List.setIfInBounds_toArray, List.set_cons_zero, List.set_cons_succ]
        go_simp
        have hb1 : Below wx.heap.size wx wx := Below.refl _ _
        refine hK _ _ ⟨f0, f2, f3, f4, f6, f7, true, f9, v0, v2, (.slice a3 n k3), v4, v6, (.slice a7 n k7), (.agg #[.slice a3 n k3, .slice a7 n k7, .slice none 0 0]), v9, ?_, ?_, (fun hf => (P0 hf)), (fun hf => (P2 hf)), (fun hf => ((P3 hf)).below hb1), (fun hf => (P4 hf)), (fun hf => (P6 hf)), (fun hf => ((P7 hf)).below hb1), (fun _ => ⟨a3, k3, a7, k7, rfl, o3, o7⟩), (fun hf => ((P9 hf)).below hb1), below_tr HB hb1⟩
        · rfl
        · simp only [List.getElem_toArray, List.getElem_cons_succ, List.getElem_cons_zero, Act.put, List.setIfInBounds_toArray, List.set_cons_zero, List.set_cons_succ]
      · refine wpOp_step rfl (fun K hK => ?_)
        simp only [Act.put, List.setIfInBounds_toArray, List.set_cons_zero, List.set_cons_succ]
        go_simp
        have hb1 : Below wx.heap.size wx (wx.alloc (.cells #[.slice none 0 0, .slice none 0 0, .slice none 0 0] 35)) := below_box0 _ _
        refine hK _ _ ⟨f0, f2, f3, f4, f6, f7, f8, true, v0, v2, v3, v4, v6, v7, v8, (.pointer (some ⟨wx.heap.size, 0, none⟩)), ?_, ?_, (fun hf => (P0 hf)), (fun hf => (P2 hf)), (fun hf => ((P3 hf)).below hb1), (fun hf => (P4 hf)), (fun hf => (P6 hf)), (fun hf => ((P7 hf)).below hb1), (fun hf => ((P8 hf)).below hb1), (fun _ => ⟨_, rfl, HB.size, heap_alloc_new wx _⟩), below_tr HB hb1⟩
        · rfl
        · simp only [List.getElem_toArray, List.getElem_cons_succ, List.getElem_cons_zero, Act.put, List.setIfInBounds_toArray, List.set_cons_zero, List.set_cons_succ]
      · exact absurd ⟨needs_ready (j := 0) hi (by kernel_rfl), needs_ready (j := 2) hi (by kernel_rfl), needs_ready (j := 3) hi (by kernel_rfl), needs_ready (j := 4) hi (by kernel_rfl), needs_ready (j := 6) hi (by kernel_rfl), needs_ready (j := 7) hi (by kernel_rfl), needs_ready (j := 8) hi (by kernel_rfl), needs_ready (j := 9) hi (by kernel_rfl)⟩ hdone
theorem OA.ra {w : World} {B n : Nat} {G : Nat → Int} {A : Nat → Bool} {V : Nat → Value} {a0 a1 a2 : Option Addr} {k0 k1 k2 : Nat} (h : OA w B n (zI G) (zB A) (cV A V) (.slice a0 n k0) (.slice a1 n k1) (.slice a2 n k2)) (hb : ∀ j, j < n → badS G A j = false) :
    RS w (.agg #[.slice a0 n k0, .slice a1 n k1, .slice a2 n k2]) (stP n G A V (.int .i64 0) n) := by
  have hl : (stP n G A V (.int .i64 0) n).length = n := stP_length
  refine ⟨a0, k0, a1, k1, a2, k2, by rw [hl], ?_, ?_, ?_⟩
  · rw [hl]
    exact (SlF.of_row h.o0).congr fun j hj => by
      unfold zI gF
      rw [stP_get hj, if_pos hj]
      have := (badS_ok (hb j hj)).1
      simp only
      rw [Int.toNat_of_nonneg this]
  · rw [hl]
    exact (SlF.of_row h.o1).congr fun j hj => by
      unfold zB aF
      rw [stP_get hj, if_pos hj]
  · rw [hl]
    exact (SlF.of_row h.o2).congr fun j hj => by
      unfold cV vF
      rw [stP_get hj, if_pos hj]

section
variable {n na nv : Nat} {ga aa va : Option Addr} {gc ac vc : Nat} {G : Nat → Int} {A : Nat → Bool} {V : Nat → Value}
set_option maxRecDepth 100000 in
set_option maxHeartbeats 1600000 in
theorem rload_err (w : World) (hG : SlF w ga n (zI G)) (hA : SlF w aa na (zB A)) (he : hcE n na nv G A ≠ 0) :
    Calls Tryd.prog 19 #[.agg #[.slice ga n gc, .slice aa na ac, .slice va nv vc]] w fun e w' => e = .returned (.tuple #[.agg #[.slice none 0 0, .slice none 0 0, .slice none 0 0], .int .i64 (hcE n na nv G A)]) ∧ Below w.heap.size w w' := by
  have hb0 := (below_box0 w (.cells #[.slice ga n gc, .slice aa na ac, .slice va nv vc] 35)).trans ((below_box0 (w.alloc (.cells #[.slice ga n gc, .slice aa na ac, .slice va nv vc] 35)) (.cells #[.slice none 0 0, .slice none 0 0, .slice none 0 0] 35)).mono (by simp))
  have HB := Lib.hid hb0
  have HG := Lib.hid (hG.below hb0)
  have HA := Lib.hid (hA.below hb0)
  have hb := bne0_true he
  clear hb0 he hG hA
  go_enter Tryd.func19, Tryd.ntmps19
  go_wp2_with fail
  refine (rcheck_ok _ HG.out HA.out).mono ?_
  rintro e w1 ⟨rfl, b1⟩
  have HB1 := Lib.hid (HB.out.trans (b1.mono (by simp; omega)))
  have q0 : w1.cell? ⟨w.heap.size + 1, 0, none⟩ = some (.slice none 0 0) := (b1.cell (p := ⟨w.heap.size + 1, 0, none⟩) (by simp)).trans (by simp [go_sem])
  have q1 : w1.cell? ⟨w.heap.size + 1, 1, none⟩ = some (.slice none 0 0) := (b1.cell (p := ⟨w.heap.size + 1, 1, none⟩) (by simp)).trans (by simp [go_sem])
  have q2 : w1.cell? ⟨w.heap.size + 1, 2, none⟩ = some (.slice none 0 0) := (b1.cell (p := ⟨w.heap.size + 1, 2, none⟩) (by simp)).trans (by simp [go_sem])
  have qz : ∀ j, w1.frozen? ⟨w.heap.size + 1, j, none⟩ = false := fun j => (b1.frozen (p := ⟨w.heap.size + 1, j, none⟩) (by simp)).trans (by simp [go_sem])
  clear b1
  go_wp2
  refine bodyPost_ret (v := .tuple #[.agg #[.slice none 0 0, .slice none 0 0, .slice none 0 0], .int .i64 (hcE n na nv G A)]) (by simp [results, Tryd.f19, go_sem, q0, q1, q2]) rfl ?_
  exact ⟨rfl, ((HB1.out.setCell (p := ⟨w.heap.size + 1, 0, none⟩) (by dsimp only; omega) _).setCell (p := ⟨w.heap.size + 1, 1, none⟩) (by dsimp only; omega) _).setCell (p := ⟨w.heap.size + 1, 2, none⟩) (by dsimp only; omega) _⟩
set_option maxRecDepth 100000 in
set_option maxHeartbeats 1600000 in
theorem rload_ok (w : World) (hG : SlF w ga n (zI G)) (hA : SlF w aa na (zB A)) (hV : SlF w va nv V) (hVf : ∀ j, ∃ x : Int, V j = .int .i64 x) (he : hcE n na nv G A = 0) :
    Calls Tryd.prog 19 #[.agg #[.slice ga n gc, .slice aa na ac, .slice va nv vc]] w fun e w' => ∃ x, e = .returned (.tuple #[x, .int .i64 0]) ∧ RS w' x (stP n G A V (.int .i64 0) n) ∧ Below w.heap.size w w' := by
  obtain ⟨h1, h2, rfl, rfl, hbad⟩ := hcE_zero he
  have hb0 := (below_box0 w (.cells #[.slice ga nv gc, .slice aa nv ac, .slice va nv vc] 35)).trans ((below_box0 (w.alloc (.cells #[.slice ga nv gc, .slice aa nv ac, .slice va nv vc] 35)) (.cells #[.slice none 0 0, .slice none 0 0, .slice none 0 0] 35)).mono (by simp))
  have HB := Lib.hid hb0
  have HG := Lib.hid (hG.below hb0)
  have HA := Lib.hid (hA.below hb0)
  have HV := Lib.hid (hV.below hb0)
  have HE := Lib.hid he
  have HBad := Lib.hid hbad
  clear hb0 he hG hA hV hbad
  go_enter Tryd.func19, Tryd.ntmps19
  go_wp2_with fail
  refine (rcheck_ok _ HG.out HA.out).mono ?_
  rintro e w1 ⟨rfl, b1⟩
  rw [HE.out]
  have HB1 := Lib.hid (HB.out.trans (b1.mono (by simp; omega)))
  have k0 : w1.cell? ⟨w.heap.size, 0, none⟩ = some (.slice ga nv gc) := (b1.cell (p := ⟨w.heap.size, 0, none⟩) (by simp; omega)).trans (by simp [go_sem])
  have k1 : w1.cell? ⟨w.heap.size, 1, none⟩ = some (.slice aa nv ac) := (b1.cell (p := ⟨w.heap.size, 1, none⟩) (by simp; omega)).trans (by simp [go_sem])
  have k2 : w1.cell? ⟨w.heap.size, 2, none⟩ = some (.slice va nv vc) := (b1.cell (p := ⟨w.heap.size, 2, none⟩) (by simp; omega)).trans (by simp [go_sem])
  have q0 : w1.cell? ⟨w.heap.size + 1, 0, none⟩ = some (.slice none 0 0) := (b1.cell (p := ⟨w.heap.size + 1, 0, none⟩) (by simp)).trans (by simp [go_sem])
  have q1 : w1.cell? ⟨w.heap.size + 1, 1, none⟩ = some (.slice none 0 0) := (b1.cell (p := ⟨w.heap.size + 1, 1, none⟩) (by simp)).trans (by simp [go_sem])
  have q2 : w1.cell? ⟨w.heap.size + 1, 2, none⟩ = some (.slice none 0 0) := (b1.cell (p := ⟨w.heap.size + 1, 2, none⟩) (by simp)).trans (by simp [go_sem])
  have qz : ∀ j, w1.frozen? ⟨w.heap.size + 1, j, none⟩ = false := fun j => (b1.frozen (p := ⟨w.heap.size + 1, j, none⟩) (by simp)).trans (by simp [go_sem])
  have hsz : w.heap.size + 2 ≤ w1.heap.size := by have := b1.size; simp at this; omega
  have HG1 := Lib.hid (HG.out.below b1)
  have HA1 := Lib.hid (HA.out.below b1)
  have HV1 := Lib.hid (HV.out.below b1)
  clear b1
  go_wp2_with fail
  refine (copy_ok _ HG1.out HA1.out HV1.out hVf h1 h2).mono ?_
  rintro e w2 ⟨a0, l0, a1, l1, a2, l2, rfl, oa, b2⟩
  have s0 := (b2.cell (p := ⟨w.heap.size + 1, 0, none⟩) (by dsimp only; omega)).trans q0
  have s1 := (b2.cell (p := ⟨w.heap.size + 1, 1, none⟩) (by dsimp only; omega)).trans q1
  have s2 := (b2.cell (p := ⟨w.heap.size + 1, 2, none⟩) (by dsimp only; omega)).trans q2
  have sz : ∀ j, w2.frozen? ⟨w.heap.size + 1, j, none⟩ = false := fun j => (b2.frozen (p := ⟨w.heap.size + 1, j, none⟩) (by dsimp only; omega)).trans (qz j)
  have HO := Lib.hid oa
  have HB2 := Lib.hid (HB1.out.trans (b2.mono (by omega)))
  clear oa b2
  go_wp2
  refine bodyPost_ret (v := .tuple #[.agg #[.slice a0 nv l0, .slice a1 nv l1, .slice a2 nv l2], .int .i64 0]) (by simp [results, Tryd.f19, go_sem, s0, s1, s2]) rfl ?_
  have ho := HO.out
  have hlt3 : ∀ j : Nat, (⟨w.heap.size + 1, j, none⟩ : Addr).block < w1.heap.size + 2 := fun j => by dsimp only; omega
  exact ⟨_, rfl, OA.ra ⟨ownsRow_setCell_below (ownsRow_setCell_below (ownsRow_setCell_below ho.o0 (hlt3 0) _) (hlt3 1) _) (hlt3 2) _, ownsRow_setCell_below (ownsRow_setCell_below (ownsRow_setCell_below ho.o1 (hlt3 0) _) (hlt3 1) _) (hlt3 2) _, ownsRow_setCell_below (ownsRow_setCell_below (ownsRow_setCell_below ho.o2 (hlt3 0) _) (hlt3 1) _) (hlt3 2) _, ho.n02⟩ HBad.out,
    ((HB2.out.setCell (p := ⟨w.heap.size + 1, 0, none⟩) (by dsimp only; omega) _).setCell (p := ⟨w.heap.size + 1, 1, none⟩) (by dsimp only; omega) _).setCell (p := ⟨w.heap.size + 1, 2, none⟩) (by dsimp only; omega) _⟩
end
end Go.Proofs.YtpaecmpiokkdnaaDoor

namespace Go.Proofs.YtpaecmpiokkdnaaDoor
open Go.RowKit Go.Sort Go.Joins
attribute [local go_sem] cell_grow frozen_grow size_grow

set_option maxRecDepth 100000 in
set_option maxHeartbeats 3200000 in
theorem rsame_ok (w : World) {n : Nat} {G : Nat → Int} {A : Nat → Bool} {V : Nat → Value} {ga aa va gb ab vb : Option Addr} {gc ac vc gd ad vd : Nat} (hga : SlF w ga n (zI G)) (haa : SlF w aa n (zB A)) (hva : SlF w va n V) (hgb : SlF w gb n (zI G)) (hab : SlF w ab n (zB A)) (hvb : SlF w vb n V) (hVf : ∀ j, j < n → ∃ x : Int, V j = .int .i64 x) (hn : n ≤ 100000) :
    Calls Tryd.prog 20 #[.agg #[.slice ga n gc, .slice aa n ac, .slice va n vc], .agg #[.slice gb n gd, .slice ab n ad, .slice vb n vd]] w fun e w' => e = .returned (.bool true) ∧ Below w.heap.size w w' := by
  have bb := (below_box0 w (.cells #[.slice ga n gc, .slice aa n ac, .slice va n vc] 35)).trans ((below_box0 (w.alloc (.cells #[.slice ga n gc, .slice aa n ac, .slice va n vc] 35)) (.cells #[.slice gb n gd, .slice ab n ad, .slice vb n vd] 35)).mono (by simp))
  have HGA := Lib.hid (hga.below bb)
  have HAA := Lib.hid (haa.below bb)
  have HVA := Lib.hid (hva.below bb)
  have HGB := Lib.hid (hgb.below bb)
  have HAB := Lib.hid (hab.below bb)
  have HVB := Lib.hid (hvb.below bb)
  have HBB := Lib.hid bb
  have qn : ((n : Int) != (n : Int)) = false := by simp
  clear hga haa hva hgb hab hvb bb
  go_enter Tryd.func20, Tryd.ntmps20
  go_wp2
  generalize hW0 : World.alloc _ _ = W0 at *
  have HQ : Hid (∀ w', Below W0.heap.size W0 w' → (w'.cell? ⟨w.heap.size, 0, none⟩ = some (.slice ga n gc) ∧ w'.cell? ⟨w.heap.size, 1, none⟩ = some (.slice aa n ac) ∧ w'.cell? ⟨w.heap.size, 2, none⟩ = some (.slice va n vc)) ∧ w'.cell? ⟨w.heap.size + 1, 0, none⟩ = some (.slice gb n gd) ∧ w'.cell? ⟨w.heap.size + 1, 1, none⟩ = some (.slice ab n ad) ∧ w'.cell? ⟨w.heap.size + 1, 2, none⟩ = some (.slice vb n vd)) :=
    Lib.hid (fun w' hb => ⟨⟨cell_later hb (by rw [← hW0]; simp [go_sem]), cell_later hb (by rw [← hW0]; simp [go_sem]), cell_later hb (by rw [← hW0]; simp [go_sem])⟩, cell_later hb (by rw [← hW0]; simp [go_sem]), cell_later hb (by rw [← hW0]; simp [go_sem]), cell_later hb (by rw [← hW0]; simp [go_sem])⟩)
  have HR0 := Lib.hid (Below.refl W0.heap.size W0)
  clear hW0
  go_loopw [5] (fun i wr => ∃ k : Nat, i = .int .i64 k ∧ k ≤ n ∧ Hid (Below W0.heap.size W0 wr)) (fun i _ => n - (intOf i).toNat)
  case atStart => exact ⟨0, rfl, Nat.zero_le _, HR0⟩
  case round =>
    obtain ⟨k, rfl, hk, HD0⟩ := hrel
    obtain ⟨W1, rfl⟩ : ∃ W1 : World, W1 = wr := ⟨_, rfl⟩
    have a0 := (HQ.out _ HD0.out).1.1
    have b0 := (HQ.out _ HD0.out).2.1
    by_cases hlt : k < n
    · obtain ⟨xb, xo, rfl, ca⟩ := (HGA.out.below HD0.out).at_ hlt
      obtain ⟨yb, yo, rfl, cb⟩ := (HGB.out.below HD0.out).at_ hlt
      obtain ⟨g, hg⟩ : ∃ g, G k = g := ⟨_, rfl⟩
      dsimp only [zI] at ca cb
      rw [hg] at ca cb
      have qg : (g != g) = false := by simp
      clear hg
      have hlti : (k : Int) < (n : Int) := by omega
      have hk0 : (0 : Int) ≤ (k : Int) := by omega
      go_wp2
      go_quiet (fail)
      go_wp2
      go_roundw
      case rel => exact ⟨k + 1, by go_num, by omega, Lib.hid (HD0.out.trans ((below_draw _ _).mono HD0.out.size))⟩
      case measure => simp [intOf]; omega
    · go_wp2
      go_loopw [6] (fun i wr => ∃ k : Nat, i = .int .i64 k ∧ k ≤ n ∧ Hid (Below W0.heap.size W0 wr)) (fun i _ => n - (intOf i).toNat)
      case atStart => exact ⟨0, rfl, Nat.zero_le _, HD0⟩
      case round =>
        obtain ⟨k, rfl, hk, HD1⟩ := hrel
        obtain ⟨W2, rfl⟩ : ∃ W2 : World, W2 = wr := ⟨_, rfl⟩
        have a1 := (HQ.out _ HD1.out).1.2.1
        have b1 := (HQ.out _ HD1.out).2.2.1
        by_cases hlt : k < n
        · obtain ⟨xb, xo, rfl, ca⟩ := (HAA.out.below HD1.out).at_ hlt
          obtain ⟨yb, yo, rfl, cb⟩ := (HAB.out.below HD1.out).at_ hlt
          obtain ⟨g, hg⟩ : ∃ g, A k = g := ⟨_, rfl⟩
          dsimp only [zB] at ca cb
          rw [hg] at ca cb
          have qg : (g == g) = true := by simp
          have qh : (g != g) = false := by simp
          clear hg
          have hlti : (k : Int) < (n : Int) := by omega
          have hk0 : (0 : Int) ≤ (k : Int) := by omega
          go_wp2
          go_quiet (fail)
          go_wp2
          go_roundw
          case rel => exact ⟨k + 1, by go_num, by omega, Lib.hid (HD1.out.trans ((below_draw _ _).mono HD1.out.size))⟩
          case measure => simp [intOf]; omega
        · go_wp2
          go_loopw [7] (fun i wr => ∃ k : Nat, i = .int .i64 k ∧ k ≤ n ∧ Hid (Below W0.heap.size W0 wr)) (fun i _ => n - (intOf i).toNat)
          case atStart => exact ⟨0, rfl, Nat.zero_le _, HD1⟩
          case round =>
            obtain ⟨k, rfl, hk, HD2⟩ := hrel
            obtain ⟨W3, rfl⟩ : ∃ W3 : World, W3 = wr := ⟨_, rfl⟩
            have a2 := (HQ.out _ HD2.out).1.2.2
            have b2 := (HQ.out _ HD2.out).2.2.2
            by_cases hlt : k < n
            · obtain ⟨xb, xo, rfl, ca⟩ := (HVA.out.below HD2.out).at_ hlt
              obtain ⟨yb, yo, rfl, cb⟩ := (HVB.out.below HD2.out).at_ hlt
              obtain ⟨g, hg⟩ := hVf k hlt
              rw [hg] at ca cb
              have qg : (g != g) = false := by simp
              clear hg
              have hlti : (k : Int) < (n : Int) := by omega
              have hk0 : (0 : Int) ≤ (k : Int) := by omega
              go_wp2
              go_quiet (fail)
              go_wp2
              go_roundw
              case rel => exact ⟨k + 1, by go_num, by omega, Lib.hid (HD2.out.trans ((below_draw _ _).mono HD2.out.size))⟩
              case measure => simp [intOf]; omega
            · go_wp2
              go_ret
              exact ⟨rfl, HBB.out.trans (HD2.out.mono (by have := HBB.out.size; omega))⟩
theorem rsame_rs {w : World} {x y : Value} {st : List Slt} (hx : RS w x st) (hy : RS w y st) (hv : ∀ j, j < st.length → ∃ z : Int, vF st j = .int .i64 z) (hn : st.length ≤ 100000) :
    Calls Tryd.prog 20 #[x, y] w fun e w' => e = .returned (.bool true) ∧ Below w.heap.size w w' := by
  obtain ⟨ga, gc, aa, ac, va, vc, rfl, h⟩ := hx
  obtain ⟨gb, gd, ab, ad, vb, vd, rfl, k⟩ := hy
  exact rsame_ok w h.g h.a h.v k.g k.a k.v hv hn
end Go.Proofs.YtpaecmpiokkdnaaDoor

namespace Go.Proofs.YtpaecmpiokkdnaaDoor
open Go.RowKit Go.Sort Go.Joins
attribute [local go_sem] cell_grow frozen_grow size_grow

def findI (st : List Slt) (h : Int) : Int := if findE st h = 0 then slotI h else 0
theorem findI_bad {st : List Slt} {h e : Int} (he : e = findE st h) (h0 : e ≠ 0) : 0 = findI st h := by unfold findI; rw [if_neg (by rw [← he]; exact h0)]
theorem findI_ok {st : List Slt} {h : Int} {i : Nat} (he : 0 = findE st h) (hi : slotI h = i) : (i : Int) = findI st h := by unfold findI; rw [if_pos he.symm, hi]

section
variable {st : List Slt} {ga aa va : Option Addr} {gc ac vc : Nat}
set_option maxRecDepth 100000 in
set_option maxHeartbeats 3200000 in
theorem rfind_ok (h : Int) (w : World) (hr : RA w st ga aa va) (hn : st.length ≤ 1024) :
    Calls Tryd.prog 75 #[.agg #[.slice ga st.length gc, .slice aa st.length ac, .slice va st.length vc], .int .i64 h] w fun e w' => e = .returned (.tuple #[.int .i64 (findI st h), .int .i64 (findE st h)]) ∧ Below w.heap.size w w' := by
  have hb := below_box0 w (.cells #[.slice ga st.length gc, .slice aa st.length ac, .slice va st.length vc] 35)
  have HB := Lib.hid hb
  by_cases h1 : slotI h < 0
  · have R := Lib.hid (find_none (q := 0) (st := st) (.inl h1)).2
    have d1 : decide (slotI h < 0) = true := by simpa using h1
    clear hb hr h1
    go_enter Tryd.func75, Tryd.ntmps75
    go_wp2_with fail
    refine (rslot_ok h _).mono ?_
    rintro e w1 ⟨rfl, rfl⟩
    go_wp2
    go_ret2
    exact ⟨ret_two (findI_bad R.out (by decide)) R.out, HB.out⟩
  obtain ⟨i, hi⟩ := Int.eq_ofNat_of_zero_le (by omega : 0 ≤ slotI h)
  have d1 : decide ((i : Int) < 0) = false := by simp
  by_cases h2 : st.length ≤ i
  · have R := Lib.hid (find_none (q := 0) (st := st) (h := h) (.inr (.inl (by omega)))).2
    have d2 : decide ((st.length : Int) ≤ (i : Int)) = true := by simpa using h2
    have d2' : decide (st.length ≤ i) = true := by simpa using h2
    have HI := Lib.hid hi
    clear hb hr h1 h2 hi
    go_enter Tryd.func75, Tryd.ntmps75
    go_wp2_with fail
    refine (rslot_ok h _).mono ?_
    rintro e w1 ⟨rfl, rfl⟩
    rw [HI.out]
    go_wp2
    go_ret2
    exact ⟨ret_two (findI_bad R.out (by decide)) R.out, HB.out⟩
  have hlt : i < st.length := by omega
  have d2 : decide ((st.length : Int) ≤ (i : Int)) = false := by simp; omega
  have d2' : decide (st.length ≤ i) = false := by simp; omega
  obtain ⟨gb, go, hga, cg⟩ := (hr.g.below hb).at_ hlt
  obtain ⟨ab, ao, haa, ca⟩ := (hr.a.below hb).at_ hlt
  have HGA := Lib.hid hga
  have HAA := Lib.hid haa
  obtain ⟨⟨g, al, v⟩, hS⟩ : ∃ S, st.getD i (0, false, undef) = S := ⟨_, rfl⟩
  dsimp only [zI, zB, gF, aF] at cg ca
  rw [hS] at cg ca
  dsimp only at cg ca
  have i0 : (0 : Int) ≤ (i : Int) := by omega
  have i1 : (i : Int) < (st.length : Int) := by omega
  have HI := Lib.hid hi
  have HCG := Lib.hid cg
  have HCA := Lib.hid ca
  clear hb hr hga haa cg ca
  have fin : ∀ (r : Int × Int), r.1 = findI st h → r.2 = findE st h → ((decide ((g : Int) < numI h) = true ∧ r = (0, 4)) ∨ (decide ((g : Int) < numI h) = false ∧ decide (numI h < (g : Int)) = true ∧ r = (0, 160)) ∨ (decide ((g : Int) < numI h) = false ∧ decide (numI h < (g : Int)) = false ∧ al = false ∧ r = (0, 160)) ∨ (decide ((g : Int) < numI h) = false ∧ decide (numI h < (g : Int)) = false ∧ al = true ∧ r = ((i : Int), 0))) →
      Calls Tryd.prog 75 #[.agg #[.slice ga st.length gc, .slice aa st.length ac, .slice va st.length vc], .int .i64 h] w fun e w' => e = .returned (.tuple #[.int .i64 (findI st h), .int .i64 (findE st h)]) ∧ Below w.heap.size w w' := by
    intro r hr1 hr2 hc
    rw [← hr1, ← hr2]
    clear hr1 hr2 hS h1 h2
    have cg := HCG.out
    have ca := HCA.out
    have e1 := HGA.out
    have e2 := HAA.out
    subst e1 e2
    rcases hc with ⟨d3, rfl⟩ | ⟨d3, d4, rfl⟩ | ⟨d3, d4, rfl, rfl⟩ | ⟨d3, d4, rfl, rfl⟩
    all_goals
      go_enter Tryd.func75, Tryd.ntmps75
      go_wp2_with fail
      refine (rslot_ok h _).mono ?_
      rintro e w1 ⟨rfl, rfl⟩
      rw [HI.out]
      go_wp2
      go_ret2
      exact ⟨rfl, HB.out⟩
  by_cases h3 : (g : Int) < numI h
  · have R := (find_far (q := 0) hi hlt (by rw [hS]; exact h3)).2
    exact fin (0, 4) (findI_bad R (by decide)) R (.inl ⟨by simpa using h3, rfl⟩)
  · have d3 : decide ((g : Int) < numI h) = false := by simpa using h3
    by_cases h4 : numI h < (g : Int)
    · have R := (find_old (q := 0) hi hlt (by rw [hS]; exact h3) (.inl (by rw [hS]; exact h4))).2
      exact fin (0, 160) (findI_bad R (by decide)) R (.inr (.inl ⟨d3, by simpa using h4, rfl⟩))
    · have d4 : decide (numI h < (g : Int)) = false := by simpa using h4
      cases hal : al with
      | false =>
        have R := (find_old (q := 0) hi hlt (by rw [hS]; exact h3) (.inr (by rw [hS]; exact hal))).2
        exact fin (0, 160) (findI_bad R (by decide)) R (.inr (.inr (.inl ⟨d3, d4, hal, rfl⟩)))
      | true =>
        have R := (find_yes (q := 0) hi hlt (by rw [hS]; exact h3) (by rw [hS]; exact h4) (by rw [hS]; exact hal)).2
        exact fin ((i : Int), 0) (findI_ok R hi) R (.inr (.inr (.inr ⟨d3, d4, hal, rfl⟩)))
/-- what Get answers -/
def getV (st : List Slt) (h : Int) : Value := if findE st h = 0 then (st.getD (slotI h).toNat (0, false, undef)).2.2 else .int .i64 0
set_option maxRecDepth 100000 in
set_option maxHeartbeats 1600000 in
theorem rget_ok (h : Int) (w : World) (hr : RA w st ga aa va) (hn : st.length ≤ 1024) (hv : ∀ j, j < st.length → ∃ z : Int, (st.getD j (0, false, undef)).2.2 = .int .i64 z) :
    Calls Tryd.prog 48 #[.agg #[.slice ga st.length gc, .slice aa st.length ac, .slice va st.length vc], .int .i64 h] w fun e w' => e = .returned (.tuple #[getV st h, .int .i64 (findE st h)]) ∧ Below w.heap.size w w' := by
  have hb := below_box0 w (.cells #[.slice ga st.length gc, .slice aa st.length ac, .slice va st.length vc] 35)
  have HB := Lib.hid hb
  have HR := Lib.hid (hr.below hb)
  by_cases he : findE st h = 0
  · have hlt : ∃ i : Nat, slotI h = i ∧ i < st.length := by
      unfold findE at he
      by_cases h1 : slotI h < 0 ∨ (st.length : Int) ≤ slotI h ∨ ((atH st h).1 : Int) < numI h
      · rw [if_pos h1] at he; cases he
      · obtain ⟨i, hi⟩ := Int.eq_ofNat_of_zero_le (by omega : 0 ≤ slotI h)
        exact ⟨i, hi, by omega⟩
    obtain ⟨i, hi, hil⟩ := hlt
    obtain ⟨z, hz⟩ := hv i hil
    have hgv : getV st h = .int .i64 z := by unfold getV; rw [if_pos he, hi, Int.toNat_natCast, hz]
    have hfi : findI st h = i := by unfold findI; rw [if_pos he, hi]
    rw [hgv, he]
    obtain ⟨vb, vo, hva, cv⟩ := HR.out.v.at_ hil
    have cv : (w.alloc (.cells #[.slice ga st.length gc, .slice aa st.length ac, .slice va st.length vc] 35)).cell? ⟨vb, vo + i, none⟩ = some (.int .i64 z) := cv.trans (by unfold vF; rw [hz])
    have hvl := World.block_lt_of_cell? _ _ cv
    have HF := Lib.hid hfi
    have HE := Lib.hid he
    have HVA := Lib.hid hva
    have HCV := Lib.hid cv
    have i0 : (0 : Int) ≤ (i : Int) := by omega
    have i1 : (i : Int) < (st.length : Int) := by omega
    clear hb hr he hi hz hgv hfi hva cv hv
    go_enter Tryd.func48, Tryd.ntmps48
    go_wp2_with fail
    refine (rfind_ok h _ HR.out hn).mono ?_
    rintro e w1 ⟨rfl, b1⟩
    rw [HF.out, HE.out]
    have c2 : w1.cell? ⟨w.heap.size, 2, none⟩ = some (.slice va st.length vc) := cell_later b1 (by simp [go_sem])
    rw [HVA.out] at c2
    have cv1 := (b1.cell (p := ⟨vb, vo + i, none⟩) hvl).trans HCV.out
    have HB1 := Lib.hid (HB.out.trans (b1.mono (by simp)))
    clear b1
    go_wp2
    go_ret2
    exact ⟨rfl, HB1.out⟩
  · have hgv : getV st h = .int .i64 0 := by unfold getV; rw [if_neg he]
    have hq := bne0_true he
    rw [hgv]
    clear hb hr he hgv hv
    go_enter Tryd.func48, Tryd.ntmps48
    go_wp2_with fail
    refine (rfind_ok h _ HR.out hn).mono ?_
    rintro e w1 ⟨rfl, b1⟩
    have HB1 := Lib.hid (HB.out.trans (b1.mono (by simp)))
    clear b1
    go_wp2
    go_ret2
    exact ⟨rfl, HB1.out⟩
end
end Go.Proofs.YtpaecmpiokkdnaaDoor

namespace Go.Proofs.YtpaecmpiokkdnaaDoor
open Go.RowKit Go.Sort Go.Joins
attribute [local go_sem] cell_grow frozen_grow size_grow

def cntF (f : Slt → Bool) (st : List Slt) (k : Nat) : Nat := cnt (fun j => f (st.getD j (0, false, undef))) 0 k
theorem cnt_st (f : Slt → Bool) (st : List Slt) : cntF f st st.length = st.countP f := by
  have h : ∀ k, k ≤ st.length → cnt (fun j => f (st.getD j (0, false, undef))) 0 k = (st.take k).countP f := by
    intro k
    induction k with
    | zero => intro _; simp [cnt]
    | succ k ih =>
      intro hk
      rw [List.take_succ_eq_append_getElem (by omega), List.countP_append]
      have e : st.getD k (0, false, undef) = st[k] := by simp [List.getD_eq_getElem?_getD, show k < st.length by omega]
      simp only [cnt, ih (by omega), e]
      cases hf : f st[k] <;> simp [hf]
  unfold cntF
  rw [h _ (Nat.le_refl _), List.take_length]
section
variable {st : List Slt} {ga aa va : Option Addr} {gc ac vc : Nat}
set_option maxRecDepth 100000 in
set_option maxHeartbeats 1600000 in
theorem rlen_ok (w : World) (hr : RA w st ga aa va) (hn : st.length ≤ 1024) :
    Calls Tryd.prog 73 #[.agg #[.slice ga st.length gc, .slice aa st.length ac, .slice va st.length vc]] w fun e w' => e = .returned (.int .i64 ((st.countP alv : Nat) : Int)) ∧ Below w.heap.size w w' := by
  have hb := below_box0 w (.cells #[.slice ga st.length gc, .slice aa st.length ac, .slice va st.length vc] 35)
  have HB := Lib.hid hb
  have HA := Lib.hid (hr.a.below hb)
  have HC := Lib.hid (cnt_st alv st)
  obtain ⟨n, hnn⟩ : ∃ n, st.length = n := ⟨_, rfl⟩
  rw [hnn] at HA HB HC hn ⊢
  have HN := Lib.hid hnn
  rw [← HC.out]
  clear hb hr hnn
  go_enter Tryd.func73, Tryd.ntmps73
  go_wp2
  go_loop [3, 4] (fun m i => ∃ k : Nat, k ≤ n ∧ i = .int .i64 k ∧ m = .int .i64 ((cntF alv st k : Nat) : Int)) (fun _ i => n - (intOf i).toNat)
  case atStart => exact ⟨0, Nat.zero_le _, rfl, rfl⟩
  case round =>
    obtain ⟨k, hk, rfl, rfl⟩ := hrel
    obtain ⟨c, hc⟩ : ∃ c, cntF alv st k = c := ⟨_, rfl⟩
    have hcb : c ≤ k := by rw [← hc]; exact cnt_le _ 0 k
    have hstep : cntF alv st (k + 1) = c + (if alv (st.getD k (0, false, undef)) = true then 1 else 0) := by rw [← hc]; simp only [cntF, cnt, Nat.zero_le, true_and]
    have HS := Lib.hid hstep
    have HCC := Lib.hid hc
    rw [hc]
    clear hstep hc
    by_cases hlt : k < n
    · obtain ⟨ab, ao, haa, ca⟩ := HA.out.at_ hlt
      have HAA := Lib.hid haa
      obtain ⟨al, hal⟩ : ∃ al, (st.getD k (0, false, undef)).2.1 = al := ⟨_, rfl⟩
      dsimp only [zB, aF] at ca
      rw [hal] at ca
      have HAL := Lib.hid hal
      have n1 : decide ((k : Int) < (n : Int)) = true := by simp; omega
      have n2 : decide (k < n) = true := by simpa using hlt
      have n3 : (k : Int) < (n : Int) := by omega
      have n0 : (0 : Int) ≤ (k : Int) := by omega
      clear hal haa
      have e1 := HAA.out
      subst e1
      cases al with
      | true =>
        go_wp2
        go_round
        case rel => exact ⟨k + 1, by omega, by go_num, by rw [HS.out, show alv (st.getD k (0, false, undef)) = true from HAL.out]; simp⟩
        case measure => simp [intOf]; omega
      | false =>
        go_wp2
        go_round
        case rel => exact ⟨k + 1, by omega, by go_num, by rw [HS.out, show alv (st.getD k (0, false, undef)) = false from HAL.out]; simp⟩
        case measure => simp [intOf]; omega
    · have n1 : decide ((k : Int) < (n : Int)) = false := by simp; omega
      have n2 : decide (k < n) = false := by simpa using hlt
      obtain rfl : k = n := by omega
      have R := Lib.hid HCC.out
      go_wp2
      go_ret
      exact ⟨by show Ending.returned (.int .i64 ((c : Nat) : Int)) = _; rw [R.out], HB.out⟩
set_option maxRecDepth 100000 in
set_option maxHeartbeats 1600000 in
theorem rroom_ok (w : World) (hr : RA w st ga aa va) (hn : st.length ≤ 1024) :
    Calls Tryd.prog 74 #[.agg #[.slice ga st.length gc, .slice aa st.length ac, .slice va st.length vc]] w fun e w' => e = .returned (.int .i64 ((st.countP rdy : Nat) : Int)) ∧ Below w.heap.size w w' := by
  have hb := below_box0 w (.cells #[.slice ga st.length gc, .slice aa st.length ac, .slice va st.length vc] 35)
  have HB := Lib.hid hb
  have HA := Lib.hid (hr.a.below hb)
  have HG := Lib.hid (hr.g.below hb)
  have HC := Lib.hid (cnt_st rdy st)
  obtain ⟨n, hnn⟩ : ∃ n, st.length = n := ⟨_, rfl⟩
  rw [hnn] at HA HB HC HG hn ⊢
  have HN := Lib.hid hnn
  rw [← HC.out]
  clear hb hr hnn
  go_enter Tryd.func74, Tryd.ntmps74
  go_wp2
  go_loop [3, 4] (fun m i => ∃ k : Nat, k ≤ n ∧ i = .int .i64 k ∧ m = .int .i64 ((cntF rdy st k : Nat) : Int)) (fun _ i => n - (intOf i).toNat)
  case atStart => exact ⟨0, Nat.zero_le _, rfl, rfl⟩
  case round =>
    obtain ⟨k, hk, rfl, rfl⟩ := hrel
    obtain ⟨c, hc⟩ : ∃ c, cntF rdy st k = c := ⟨_, rfl⟩
    have hcb : c ≤ k := by rw [← hc]; exact cnt_le _ 0 k
    have hstep : cntF rdy st (k + 1) = c + (if rdy (st.getD k (0, false, undef)) = true then 1 else 0) := by rw [← hc]; simp only [cntF, cnt, Nat.zero_le, true_and]
    have HS := Lib.hid hstep
    have HCC := Lib.hid hc
    rw [hc]
    clear hstep hc
    by_cases hlt : k < n
    · obtain ⟨ab, ao, haa, ca⟩ := HA.out.at_ hlt
      obtain ⟨gb, go, hga, cg⟩ := HG.out.at_ hlt
      have HAA := Lib.hid haa
      have HGA := Lib.hid hga
      obtain ⟨⟨g, al, v⟩, hS⟩ : ∃ S, st.getD k (0, false, undef) = S := ⟨_, rfl⟩
      dsimp only [zB, aF, zI, gF] at ca cg
      rw [hS] at ca cg
      dsimp only at ca cg
      have HAL := Lib.hid hS
      have n1 : decide ((k : Int) < (n : Int)) = true := by simp; omega
      have n2 : decide (k < n) = true := by simpa using hlt
      have n3 : (k : Int) < (n : Int) := by omega
      have n0 : (0 : Int) ≤ (k : Int) := by omega
      clear hS haa hga
      have e1 := HAA.out
      have e2 := HGA.out
      subst e1 e2
      cases al with
      | true =>
        go_wp2
        go_round
        case rel => exact ⟨k + 1, by omega, by go_num, by rw [HS.out, HAL.out]; simp [rdy]⟩
        case measure => simp [intOf]; omega
      | false =>
        by_cases hg : g < 65535
        · have q : decide ((g : Int) < 65535) = true := by simp; omega
          have HGG := Lib.hid hg
          clear hg
          go_wp2
          go_round
          case rel => exact ⟨k + 1, by omega, by go_num, by rw [HS.out, HAL.out, show rdy (g, false, v) = true by simp [rdy, HGG.out]]; simp⟩
          case measure => simp [intOf]; omega
        · have q : decide ((g : Int) < 65535) = false := by simp; omega
          have HGG := Lib.hid hg
          clear hg
          go_wp2
          go_round
          case rel => exact ⟨k + 1, by omega, by go_num, by rw [HS.out, HAL.out, show rdy (g, false, v) = false by simp [rdy, HGG.out]]; simp⟩
          case measure => simp [intOf]; omega
    · have n1 : decide ((k : Int) < (n : Int)) = false := by simp; omega
      have n2 : decide (k < n) = false := by simpa using hlt
      obtain rfl : k = n := by omega
      have R := Lib.hid HCC.out
      go_wp2
      go_ret
      exact ⟨by show Ending.returned (.int .i64 ((c : Nat) : Int)) = _; rw [R.out], HB.out⟩
end
end Go.Proofs.YtpaecmpiokkdnaaDoor

namespace Go.Proofs.YtpaecmpiokkdnaaDoor
open Go.RowKit Go.Sort Go.Joins

theorem own_setAt {w : World} {base : Nat} {e : TypeId} {n : Nat} {xs : List Value} {g cap i : Nat} (h : w.ownsRow base e 1 (.slice (some ⟨g, 0, none⟩) n cap) n xs) (hi : i < n) (u : Value) :
    (w.setCell ⟨g, i, none⟩ u).ownsRow base e 1 (.slice (some ⟨g, 0, none⟩) n cap) n (xs.set i u) := by
  refine ⟨by rw [List.length_set]; exact h.1, ?_⟩
  rcases h.2 with ⟨h1, _⟩ | ⟨g', cap', cur, e1, e2, e3, e4, e5, e6, e7⟩
  · cases h1
  · simp only [Value.slice.injEq, Option.some.injEq, Addr.mk.injEq, and_true, true_and] at e1
    obtain ⟨rfl, rfl⟩ := e1
    refine .inr ⟨g, cap, cur.setIfInBounds i u, rfl, e2, setCell_block e3 u, e4, e5, by simpa using e6, ?_⟩
    rw [Array.toList_setIfInBounds, List.take_set, e7]
end Go.Proofs.YtpaecmpiokkdnaaDoor

namespace Go.Proofs.YtpaecmpiokkdnaaDoor
open Go.RowKit Go.Sort Go.Joins Go.Shelf
attribute [local go_sem] cell_grow frozen_grow size_grow

def kH (K : List Kn) : List Value := K.map fun t => .int .i64 t.1
def kA (K : List Kn) : List Value := K.map fun t => .bool t.2.1
def kV (K : List Kn) : List Value := K.map fun t => .int .i64 t.2.2
/-- the three rows -/
structure RR (Z : Nat) (W : World) (K : List Kn) (r0 r1 r2 : Value) : Prop where
  o0 : W.ownsRow Z 2 1 r0 K.length (kH K)
  o1 : W.ownsRow Z 4 1 r1 K.length (kA K)
  o2 : W.ownsRow Z 3 1 r2 K.length (kV K)
  n01 : ∀ g, r0.ownBlock = some g → r1.ownBlock ≠ some g
  n02 : ∀ g, r0.ownBlock = some g → r2.ownBlock ≠ some g
  n12 : ∀ g, r1.ownBlock = some g → r2.ownBlock ≠ some g
theorem RR.start (Z : Nat) (W : World) : RR Z W [] (.slice none 0 0) (.slice none 0 0) (.slice none 0 0) :=
  ⟨World.ownsRow_nil _ _ _ _, World.ownsRow_nil _ _ _ _, World.ownsRow_nil _ _ _ _, fun g h => by simp [Value.ownBlock] at h, fun g h => by simp [Value.ownBlock] at h, fun g h => by simp [Value.ownBlock] at h⟩
theorem RR.below {Z : Nat} {W W' : World} {K : List Kn} {r0 r1 r2 : Value} (h : RR Z W K r0 r1 r2) (hb : Below W.heap.size W W') : RR Z W' K r0 r1 r2 :=
  ⟨own_below h.o0 hb, own_below h.o1 hb, own_below h.o2 hb, h.n01, h.n02, h.n12⟩
theorem own_fr {p q : Nat} {W W' : World} {base n : Nat} {e t1 t2 : TypeId} {v : Value} {xs : List Value} {c1 c2 : Array Value} (h : W.ownsRow base e 1 v n xs) (f : Fr p q W W') (hp : W.heap[p]? = some (.cells c1 t1 (0, 0))) (hq : W.heap[q]? = some (.cells c2 t2 (0, 0))) (h1 : e ≠ t1) (h2 : e ≠ t2) : W'.ownsRow base e 1 v n xs :=
  own_same h fun g hg => f.block g (h.lt g hg).2 (fun e' => own_ne h hp h1 (by rw [hg, e'])) (fun e' => own_ne h hq h2 (by rw [hg, e']))
theorem RR.fr {B Z p q : Nat} {W W' : World} {st : List Slt} {K : List Kn} {r0 r1 r2 : Value} (h : RR Z W K r0 r1 r2) (ht : Int.TT W B p q st) (f : Fr p q W W') : RR Z W' K r0 r1 r2 := by
  obtain ⟨ra, rcap, h1, _⟩ := Tb.tbl ht
  exact ⟨own_fr h.o0 f h1 ht.slots (by decide) (by decide), own_fr h.o1 f h1 ht.slots (by decide) (by decide), own_fr h.o2 f h1 ht.slots (by decide) (by decide), h.n01, h.n02, h.n12⟩
/-- all is kept but newer blocks of ints and bools -/
structure KB (Z : Nat) (W W' : World) : Prop where
  os : W'.os = W.os
  tape : W'.tape = W.tape
  output : W'.output = W.output
  size : W.heap.size ≤ W'.heap.size
  old : ∀ k, k < W.heap.size → k < Z → W'.heap[k]? = W.heap[k]?
  other : ∀ (k : Nat) (cs : Array Value) (t : TypeId), W.heap[k]? = some (.cells cs t (0, 0)) → t ≠ 2 → t ≠ 4 → t ≠ 3 → W'.heap[k]? = some (.cells cs t (0, 0))
theorem KB.of_below {Z : Nat} {W W' : World} (h : Below W.heap.size W W') : KB Z W W' := ⟨h.os, h.tape, h.output, h.size, fun k hk _ => h.block k hk, fun k _ _ hk _ _ _ => (h.block k (blk_lt hk)).trans hk⟩
theorem KB.trans {Z : Nat} {a b c : World} (h : KB Z a b) (k : KB Z b c) : KB Z a c :=
  ⟨k.os.trans h.os, k.tape.trans h.tape, k.output.trans h.output, Nat.le_trans h.size k.size, fun i hi h1 => (k.old i (Nat.lt_of_lt_of_le hi h.size) h1).trans (h.old i hi h1), fun i cs t hi h1 h2 h3 => k.other i cs t (h.other i cs t hi h1 h2 h3) h1 h2 h3⟩
theorem KB.tt {B Z p q : Nat} {W W' : World} {st : List Slt} (h : KB Z W W') (ht : Int.TT W B p q st) : Int.TT W' B p q st := by
  obtain ⟨ra, rcap, h1, h2⟩ := Tb.tbl ht
  refine ⟨ht.hp, ht.hq, ht.ne, ht.n1, ht.n2, ⟨ra, rcap, h.other _ _ _ h1 (by decide) (by decide) (by decide), h2.1, ?_⟩, h.other _ _ _ ht.slots (by decide) (by decide) (by decide), ht.rb⟩
  rcases h2.2 with h3 | ⟨g, cap, cur, e1, e2, e3, e4⟩
  · exact .inl h3
  · exact .inr ⟨g, cap, cur, e1, e2, h.other _ _ _ e3 (by decide) (by decide) (by decide), e4⟩
theorem KB.tab {Z : Nat} {W W' : World} (h : KB Z W W') (ht : Tab W) (hz : 0 < Z) : Tab W' := fun i hi => by
  rw [World.cell?_of_block (w := W) (h.old _ ht.lt hz)]
  exact ht i hi
theorem KB.below {Z b : Nat} {w W W' : World} (h : KB Z W W') (hb : Below b w W) (hz : b ≤ Z) (hz2 : b ≤ W.heap.size) : Below b w W' :=
  hb.trans ⟨h.os, h.tape, h.output, h.size, fun k hk => h.old k (by omega) (by omega)⟩
theorem KB.set {Z g j n cap : Nat} {W : World} {e : TypeId} {xs : List Value} (h : W.ownsRow Z e 1 (.slice (some ⟨g, 0, none⟩) n cap) n xs) (he : e = 2 ∨ e = 4 ∨ e = 3) (v : Value) : KB Z W (W.setCell ⟨g, j, none⟩ v) := by
  refine ⟨rfl, rfl, rfl, by simp [World.setCell], fun k _ hk => Below.heap_setCell _ _ _ _ (by have := (h.lt g rfl).1; dsimp only; omega), fun k cs t hk h1 h2 h3 => ?_⟩
  refine (Below.heap_setCell _ _ _ _ ?_).trans hk
  intro e'
  dsimp only at e'
  subst e'
  exact own_ne h hk (by rcases he with rfl | rfl | rfl <;> exact fun e' => by first | exact h1 e'.symm | exact h2 e'.symm | exact h3 e'.symm) rfl
section
variable {Z n : Nat} {W wx : World} {x0 x1 x2 : Value} {t0 t1 t2 : TypeId} {D0 D1 D2 : ChDyn} {K : List Kn} {r0 r1 r2 : Value} {y0 y1 y2 : List Value}
theorem KB.chains (h : RR Z W K r0 r1 r2) (HC : Chains W [(ChSpec.mk Z 2 t0 r0 n (kH K) x0 y0, D0), (ChSpec.mk Z 4 t1 r1 n (kA K) x1 y1, D1), (ChSpec.mk Z 3 t2 r2 n (kV K) x2 y2, D2)] wx) : KB Z W wx := by
  refine ⟨HC.os, HC.tape, HC.output, HC.size, fun k hk hz => HC.block k hk ?_, fun k cs t hk h1 h2 h3 => (HC.block k (blk_lt hk) ?_).trans hk⟩
  · intro c hc
    simp only [List.mem_cons, List.not_mem_nil, or_false] at hc
    rcases hc with rfl | rfl | rfl
    · exact fun e => by have := (h.o0.lt k e).1; omega
    · exact fun e => by have := (h.o1.lt k e).1; omega
    · exact fun e => by have := (h.o2.lt k e).1; omega
  · intro c hc
    simp only [List.mem_cons, List.not_mem_nil, or_false] at hc
    rcases hc with rfl | rfl | rfl
    · exact own_ne h.o0 hk (fun e => h1 e.symm)
    · exact own_ne h.o1 hk (fun e => h2 e.symm)
    · exact own_ne h.o2 hk (fun e => h3 e.symm)
theorem RR.next {u v : Int} {b : Bool} {g0 g1 g2 k0 k1 k2 : Nat} (hn : K.length = n)
    (HC : Chains W [(ChSpec.mk Z 2 t0 r0 n (kH K) (.int .i64 u) [.int .i64 u], D0), (ChSpec.mk Z 4 t1 r1 n (kA K) (.bool b) [.bool b], D1), (ChSpec.mk Z 3 t2 r2 n (kV K) (.int .i64 v) [.int .i64 v], D2)] wx)
    (own0 : wx.ownsRow Z 2 1 (.slice (some ⟨g0, 0, none⟩) (n + 1) k0) (n + 1) (kH K ++ [.int .i64 u])) (own1 : wx.ownsRow Z 4 1 (.slice (some ⟨g1, 0, none⟩) (n + 1) k1) (n + 1) (kA K ++ [.bool b])) (own2 : wx.ownsRow Z 3 1 (.slice (some ⟨g2, 0, none⟩) (n + 1) k2) (n + 1) (kV K ++ [.int .i64 v]))
    (hu0 : g0 ∈ D0.u) (hu1 : g1 ∈ D1.u) (hu2 : g2 ∈ D2.u) :
    RR Z wx (K ++ [(u, b, v)]) (.slice (some ⟨g0, 0, none⟩) (n + 1) k0) (.slice (some ⟨g1, 0, none⟩) (n + 1) k1) (.slice (some ⟨g2, 0, none⟩) (n + 1) k2) := by
  have hap := HC.apart
  simp only [List.pairwise_cons, List.mem_cons, List.not_mem_nil, or_false, forall_eq_or_imp, forall_eq] at hap
  have hl : (K ++ [(u, b, v)]).length = n + 1 := by simp [hn]
  have e0 : kH (K ++ [(u, b, v)]) = kH K ++ [.int .i64 u] := by simp [kH]
  have e1 : kA (K ++ [(u, b, v)]) = kA K ++ [.bool b] := by simp [kA]
  have e2 : kV (K ++ [(u, b, v)]) = kV K ++ [.int .i64 v] := by simp [kV]
  refine ⟨by rw [hl, e0]; exact own0, by rw [hl, e1]; exact own1, by rw [hl, e2]; exact own2, ?_, ?_, ?_⟩
  · intro k h1 h2
    simp only [Value.ownBlock, Option.some.injEq] at h1 h2
    exact hap.1.1 g0 hu0 (by rw [h1, ← h2]; exact hu1)
  · intro k h1 h2
    simp only [Value.ownBlock, Option.some.injEq] at h1 h2
    exact hap.1.2 g0 hu0 (by rw [h1, ← h2]; exact hu2)
  · intro k h1 h2
    simp only [Value.ownBlock, Option.some.injEq] at h1 h2
    exact hap.2.1 g1 hu1 (by rw [h1, ← h2]; exact hu2)
end
theorem kH_get {K : List Kn} {k : Nat} (h : k < K.length) : (kH K)[k]? = some (.int .i64 (K.getD k (0, false, 0)).1) := by simp [kH, List.getElem?_map, List.getElem?_eq_getElem h, List.getD_eq_getElem?_getD]
theorem kA_get {K : List Kn} {k : Nat} (h : k < K.length) : (kA K)[k]? = some (.bool (K.getD k (0, false, 0)).2.1) := by simp [kA, List.getElem?_map, List.getElem?_eq_getElem h, List.getD_eq_getElem?_getD]
theorem kV_get {K : List Kn} {k : Nat} (h : k < K.length) : (kV K)[k]? = some (.int .i64 (K.getD k (0, false, 0)).2.2) := by simp [kV, List.getElem?_map, List.getElem?_eq_getElem h, List.getD_eq_getElem?_getD]
theorem kn_eta {K : List Kn} {k : Nat} (h : k < K.length) : K[k]? = some (K.getD k (0, false, 0)) := by simp [List.getElem?_eq_getElem h, List.getD_eq_getElem?_getD]
theorem map_set_same {α β : Type} (f : α → β) {K : List α} {a : Nat} {t u : α} (ha : K[a]? = some t) (h : f u = f t) : (K.set a u).map f = K.map f := by
  rw [List.map_set, h]
  exact set_same (by rw [List.getElem?_map, ha]; rfl)
theorem RR.setV {Z a g n k : Nat} {W : World} {K : List Kn} {r0 r1 : Value} (h : RR Z W K r0 r1 (.slice (some ⟨g, 0, none⟩) n k)) (hn : K.length = n) (ha : a < n) (v : Int) :
    RR Z (W.setCell ⟨g, a, none⟩ (.int .i64 v)) (K.set a ((K.getD a (0, false, 0)).1, (K.getD a (0, false, 0)).2.1, v)) r0 r1 (.slice (some ⟨g, 0, none⟩) n k) := by
  have hk := kn_eta (K := K) (k := a) (by omega)
  subst hn
  refine ⟨?_, ?_, ?_, h.n01, h.n02, h.n12⟩
  · rw [List.length_set, show kH (K.set a ((K.getD a (0, false, 0)).1, (K.getD a (0, false, 0)).2.1, v)) = kH K from map_set_same (fun t : Kn => Value.int .i64 t.1) hk rfl]
    exact ownsRow_setCell_other h.o0 (a := ⟨g, a, none⟩) (fun e => h.n02 g e rfl) _
  · rw [List.length_set, show kA (K.set a ((K.getD a (0, false, 0)).1, (K.getD a (0, false, 0)).2.1, v)) = kA K from map_set_same (fun t : Kn => Value.bool t.2.1) hk rfl]
    exact ownsRow_setCell_other h.o1 (a := ⟨g, a, none⟩) (fun e => h.n12 g e rfl) _
  · rw [List.length_set, show kV (K.set a ((K.getD a (0, false, 0)).1, (K.getD a (0, false, 0)).2.1, v)) = (kV K).set a (.int .i64 v) by unfold kV; rw [List.map_set]]
    exact own_setAt h.o2 ha _
theorem RR.setA {Z a g n k : Nat} {W : World} {K : List Kn} {r0 r2 : Value} (h : RR Z W K r0 (.slice (some ⟨g, 0, none⟩) n k) r2) (hn : K.length = n) (ha : a < n) (v : Bool) :
    RR Z (W.setCell ⟨g, a, none⟩ (.bool v)) (K.set a ((K.getD a (0, false, 0)).1, v, (K.getD a (0, false, 0)).2.2)) r0 (.slice (some ⟨g, 0, none⟩) n k) r2 := by
  have hk := kn_eta (K := K) (k := a) (by omega)
  subst hn
  refine ⟨?_, ?_, ?_, h.n01, h.n02, h.n12⟩
  · rw [List.length_set, show kH (K.set a ((K.getD a (0, false, 0)).1, v, (K.getD a (0, false, 0)).2.2)) = kH K from map_set_same (fun t : Kn => Value.int .i64 t.1) hk rfl]
    exact ownsRow_setCell_other h.o0 (a := ⟨g, a, none⟩) (fun e => h.n01 g e rfl) _
  · rw [List.length_set, show kA (K.set a ((K.getD a (0, false, 0)).1, v, (K.getD a (0, false, 0)).2.2)) = (kA K).set a (.bool v) by unfold kA; rw [List.map_set]]
    exact own_setAt h.o1 ha _
  · rw [List.length_set, show kV (K.set a ((K.getD a (0, false, 0)).1, v, (K.getD a (0, false, 0)).2.2)) = kV K from map_set_same (fun t : Kn => Value.int .i64 t.2.2) hk rfl]
    exact ownsRow_setCell_other h.o2 (a := ⟨g, a, none⟩) (fun e => h.n12 g rfl e) _

theorem own_free {W : World} {base n : Nat} {e : TypeId} {g cap : Nat} {xs : List Value} (h : W.ownsRow base e 1 (.slice (some ⟨g, 0, none⟩) n cap) n xs) (j : Nat) : W.frozen? ⟨g, j, none⟩ = false := by
  rcases h.2 with ⟨h1, _⟩ | ⟨g', cap', cur, e1, _, e3, _⟩
  · cases h1
  · simp only [Value.slice.injEq, Option.some.injEq, Addr.mk.injEq, and_true, true_and] at e1
    obtain ⟨rfl, rfl⟩ := e1
    exact unfrozen_of_block e3 j
theorem getD_mem {K : List Kn} {j : Nat} (h : j < K.length) : K.getD j (0, false, 0) ∈ K := List.mem_iff_getElem?.2 ⟨j, kn_eta h⟩
theorem own_form' {W : World} {base n : Nat} {e : TypeId} {r : Value} {xs : List Value} (h : W.ownsRow base e 1 r n xs) (hn : 0 < n) : ∃ g cap, r = .slice (some ⟨g, 0, none⟩) n cap := ownsRow_form h hn
/-- calls in memory -/
abbrev Cll := Nat × Int × Nat × Int
abbrev clV (c : Cll) : Value := .agg #[.int .u8 (c.1 : Int), .int .i64 c.2.1, .int .u8 (c.2.2.1 : Int), .int .i64 c.2.2.2]
def SlC (w : World) (a : Option Addr) (n : Nat) (C : Nat → Cll) : Prop := n = 0 ∨ ∃ b o, a = some ⟨b, o, none⟩ ∧ ∀ j, j < n → w.cell? ⟨b, o + j * 4, none⟩ = some (.int .u8 ((C j).1 : Int)) ∧ w.cell? ⟨b, o + j * 4 + 1, none⟩ = some (.int .i64 (C j).2.1) ∧ w.cell? ⟨b, o + j * 4 + 2, none⟩ = some (.int .u8 ((C j).2.2.1 : Int)) ∧ w.cell? ⟨b, o + j * 4 + 3, none⟩ = some (.int .i64 (C j).2.2.2)
theorem SlC.below {b : Nat} {w w' : World} {a : Option Addr} {n : Nat} {C : Nat → Cll} (h : SlC w a n C) (hb : Below b w w') (hs : b = w.heap.size) : SlC w' a n C := by
  subst hs
  rcases h with h | ⟨b, o, ha, hc⟩
  · exact .inl h
  · refine .inr ⟨b, o, ha, fun j hj => ?_⟩
    obtain ⟨h0, h1, h2, h3⟩ := hc j hj
    have hl := World.block_lt_of_cell? _ _ h0
    dsimp only at hl
    exact ⟨(hb.cell (p := ⟨b, o + j * 4, none⟩) hl).trans h0, (hb.cell (p := ⟨b, o + j * 4 + 1, none⟩) hl).trans h1, (hb.cell (p := ⟨b, o + j * 4 + 2, none⟩) hl).trans h2, (hb.cell (p := ⟨b, o + j * 4 + 3, none⟩) hl).trans h3⟩

theorem hndC_zero {H : Int} {o : Nat} {K : List Kn} (h : o = 0 ∨ K.length = 0) : H = hndC H o K := by unfold hndC; rw [if_pos h]
theorem hndC_pos {H : Int} {o n : Nat} {K : List Kn} (h : ¬ (o = 0 ∨ K.length = 0)) (hn : K.length = n) : hndC H o K = (K.getD (n - 1 - (o - 1) % n) (0, false, 0)).1 := by unfold hndC; rw [if_neg h, hn]
set_option maxRecDepth 100000 in
set_option maxHeartbeats 1600000 in
theorem handle_ok {K : List Kn} {a : Option Addr} {n c : Nat} (x : Cll) (w : World) (hK : SlF w a n (fun j => .int .i64 (K.getD j (0, false, 0)).1)) (hn : K.length = n) (hn2 : n ≤ 1000000) (ho : x.2.2.1 ≤ 255) :
    Calls Tryd.prog 26 #[clV x, .slice a n c] w fun e w' => e = .returned (.int .i64 (hndC x.2.1 x.2.2.1 K)) ∧ Below w.heap.size w w' := by
  obtain ⟨x0, x1, o, x3⟩ := x
  dsimp only at ho ⊢
  have HB := Lib.hid (below_box0 w (.cells #[.int .u8 (x0 : Int), .int .i64 x1, .int .u8 (o : Int), .int .i64 x3] 55))
  by_cases h0 : o = 0
  · have R := Lib.hid (hndC_zero (H := x1) (K := K) (.inl h0))
    have q1 : ((o : Int) == 0) = true := by simp; omega
    have o2 : (o : Int) ≤ 255 := by omega
    clear hK hn h0
    go_enter Tryd.func26, Tryd.ntmps26
    go_wp2
    go_ret
    exact ⟨ret_i64 R.out, HB.out⟩
  · have q1 : ((o : Int) == 0) = false := by simp; omega
    by_cases h1 : n = 0
    · have R := Lib.hid (hndC_zero (H := x1) (o := o) (K := K) (.inr (by omega)))
      have q2 : ((n : Int) == 0) = true := by simp; omega
      clear hK hn h0 h1
      go_enter Tryd.func26, Tryd.ntmps26
      go_wp2
      go_ret
      exact ⟨ret_i64 R.out, HB.out⟩
    · have q2 : ((n : Int) == 0) = false := by simp; omega
      obtain ⟨m, hm⟩ : ∃ m, n - 1 - (o - 1) % n = m := ⟨_, rfl⟩
      have hml := Nat.mod_lt (o - 1) (show 0 < n by omega)
      have hmn : m < n := by omega
      have R := Lib.hid (hndC_pos (H := x1) (o := o) (K := K) (by omega) hn)
      rw [hm] at R
      obtain ⟨hb, ho', rfl, ch⟩ := (hK.below HB.out).at_ hmn
      obtain ⟨z, hz⟩ : ∃ z, (K.getD m (0, false, 0)).1 = z := ⟨_, rfl⟩
      rw [hz] at ch R
      have i1 : (o : Int) - 1 = ((o - 1 : Nat) : Int) := by omega
      have i2 : (((o - 1 : Nat) : Int)).tmod (n : Int) = (((o - 1) % n : Nat) : Int) := rfl
      have i3 : (n : Int) - 1 - (((o - 1) % n : Nat) : Int) = (m : Int) := by omega
      have m0 : (0 : Int) ≤ (m : Int) := by omega
      have m1 : (m : Int) < (n : Int) := by omega
      have o1 : (1 : Int) ≤ (o : Int) := by omega
      have o2 : (o : Int) ≤ 255 := by omega
      have n1 : (1 : Int) ≤ (n : Int) := by omega
      have n2 : (n : Int) ≤ 1000000 := by omega
      have i4 : ((o : Int) - 1) % (n : Int) = (((o - 1) % n : Nat) : Int) := by rw [i1]; rfl
      have k0 : (((o - 1) % n : Nat) : Int) < (n : Int) := by omega
      have k1 : (0 : Int) ≤ (((o - 1) % n : Nat) : Int) := by omega
      obtain ⟨r, hr⟩ : ∃ r : Nat, (o - 1) % n = r := ⟨_, rfl⟩
      rw [hr] at i3 i4 k0 k1 i2
      have qn : decide ((n : Int) = 0) = false := by simp; omega
      clear hK hn h0 h1 hz hm hml hr i1 i2
      go_enter Tryd.func26, Tryd.ntmps26
      go_wp2
      go_ret
      exact ⟨ret_i64 R.out.symm, HB.out⟩
end Go.Proofs.YtpaecmpiokkdnaaDoor
