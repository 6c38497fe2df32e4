/- Handles: Copy and Load of the reference. -/
import Derived.Test.YtpaecmpiokkdnaaDoorTypesZ5
import Derived.Test.YtpaecmpiokkdnaaDoorTypesZ9
import Derived.RegionTactic
namespace Go.Proofs.YtpaecmpiokkdnaaDoor
open Go.RowKit Go.Sort Go.Joins
attribute [local go_sem] cell_grow frozen_grow size_grow

def rowF (n : Nat) (f : Nat → Value) : List Value := (List.range n).map f
theorem rowF_length (n : Nat) (f : Nat → Value) : (rowF n f).length = n := by simp [rowF]
theorem rowF_get {n : Nat} {f : Nat → Value} {j : Nat} (h : j < n) : (rowF n f)[j]? = some (f j) := by simp [rowF, h]
theorem rowF_succ (n : Nat) (f : Nat → Value) : rowF (n + 1) f = rowF n f ++ [f n] := by simp [rowF, List.range_succ]
theorem rowF_cells {w : World} {n b o : Nat} {f : Nat → Value} (h : ∀ j, j < n → w.cell? ⟨b, o + j, none⟩ = some (f j)) : ∀ j u, (rowF n f)[j]? = some u → w.cell? ((⟨b, o, none⟩ : Addr).add j) = some u := by
  intro j u hu
  have hj : j < n := by have := (List.getElem?_eq_some_iff.1 hu).1; rwa [rowF_length] at this
  rw [rowF_get hj] at hu
  cases hu
  rw [Addr.add_lit]; exact h j hj
theorem rowF_one {n : Nat} {f : Nat → Value} (h : ∀ j, (f j).oneCell' = true) : ∀ u ∈ rowF n f, u.oneCell' = true := by
  intro u hu
  obtain ⟨j, _, rfl⟩ := List.mem_map.1 hu
  exact h j
theorem SlF.of_row {w : World} {base n : Nat} {e : TypeId} {a : Option Addr} {cap : Nat} {f : Nat → Value} (h : w.ownsRow base e 1 (.slice a n cap) n (rowF n f)) : SlF w a n f := SlF.of_own h fun _ hj => rowF_get hj

def IsE (v : Value) : Prop := ∃ ao, v = .slice ao 0 0
def OwnV (B : Nat) (e : TypeId) (n : Nat) (xs : List Value) (v : Value) (w : World) : Prop := ∃ a k, v = .slice a n k ∧ w.ownsRow B e 1 (.slice a n k) n xs
theorem OwnV.mk {B : Nat} {e : TypeId} {n : Nat} {xs : List Value} {v : Value} {w : World} (h : w.ownsRow B e 1 v n xs) : OwnV B e n xs v w := by
  obtain ⟨a, k, rfl⟩ := own_slice h
  exact ⟨a, k, rfl, h⟩
theorem OwnV.below {B : Nat} {e : TypeId} {n : Nat} {xs : List Value} {v : Value} {w w' : World} (h : OwnV B e n xs v w) (hb : Below w.heap.size w w') : OwnV B e n xs v w' := by
  obtain ⟨a, k, e, h⟩ := h
  exact ⟨a, k, e, own_below h hb⟩
def TwoV (B n : Nat) (f g : Nat → Value) (v : Value) (w : World) : Prop := ∃ a k b l, v = .agg #[.slice a n k, .slice b n l, .slice none 0 0] ∧ w.ownsRow B 3 1 (.slice a n k) n (rowF n f) ∧ w.ownsRow B 4 1 (.slice b n l) n (rowF n g)
theorem TwoV.below {B n : Nat} {f g : Nat → Value} {v : Value} {w w' : World} (h : TwoV B n f g v w) (hb : Below w.heap.size w w') : TwoV B n f g v w' := by
  obtain ⟨a, k, b, l, e, h1, h2⟩ := h
  exact ⟨a, k, b, l, e, own_below h1 hb, own_below h2 hb⟩
def BoxV (B : Nat) (v : Value) (w : World) : Prop := ∃ g, v = .pointer (some ⟨g, 0, none⟩) ∧ B ≤ g ∧ w.heap[g]? = some (.cells #[.slice none 0 0, .slice none 0 0, .slice none 0 0] 35 (0, 0))
theorem BoxV.below {B : Nat} {v : Value} {w w' : World} (h : BoxV B v w) (hb : Below w.heap.size w w') : BoxV B v w' := by
  obtain ⟨g, e, h1, h2⟩ := h
  exact ⟨g, e, h1, (hb.block _ (blk_lt h2)).trans h2⟩

/-- what is copied of the values -/
def cV (A : Nat → Bool) (V : Nat → Value) : Nat → Value := fun j => if A j then V j else .int .i64 0
structure CpAt (w wr : World) (n : Nat) (G : Nat → Int) (A : Nat → Bool) (V : Nat → Value) (r0 r1 r2 : Value) (Bo : Nat) (s0 s1 rv : Value) (i : Nat) : Prop where
  inb : wr.heap[w.heap.size]? = some (.cells #[r0, r1, r2] 35 (0, 0))
  res : wr.heap[w.heap.size + 1]? = some (.cells #[.slice none 0 0, .slice none 0 0, .slice none 0 0] 35 (0, 0))
  out : wr.heap[Bo]? = some (.cells #[s0, s1, rv] 35 (0, 0))
  o0 : wr.ownsRow (w.heap.size + 2) 3 1 s0 n (rowF n (zI G))
  o1 : wr.ownsRow (w.heap.size + 2) 4 1 s1 n (rowF n (zB A))
  o2 : wr.ownsRow (w.heap.size + 2) 3 1 rv i (rowF i (cV A V))
  n02 : ∀ g, s0.ownBlock = some g → rv.ownBlock ≠ some g
  hB : w.heap.size + 2 ≤ Bo
  k : Below w.heap.size w wr
theorem CpAt.next {w wr w1 : World} {n : Nat} {G : Nat → Int} {A : Nat → Bool} {V : Nat → Value} {r0 r1 r2 : Value} {Bo : Nat} {s0 s1 rv x : Value} {i : Nat} (h : CpAt w wr n G A V r0 r1 r2 Bo s0 s1 rv i) {T : TypeId} {g cap : Nat}
    (hx : cV A V i = x) (own : w1.ownsRow (w.heap.size + 2) 3 1 (.slice (some ⟨g, 0, none⟩) (i + 1) cap) (i + 1) (rowF i (cV A V) ++ [x])) (hg : (wr.alloc (.cells #[x] T)).grownBy w1 rv.ownBlock) (hat : rv.ownBlock = some g ∨ g = wr.heap.size + 1) :
    CpAt w (w1.setCell ⟨Bo, 2, none⟩ (.slice (some ⟨g, 0, none⟩) (i + 1) cap)) n G A V r0 r1 r2 Bo s0 s1 (.slice (some ⟨g, 0, none⟩) (i + 1) cap) (i + 1) := by
  have hA : ∀ k, k < wr.heap.size → (wr.alloc (.cells #[x] T)).heap[k]? = wr.heap[k]? := fun k hk => Below.heap_alloc wr _ _ hk
  have hW : ∀ k, k < wr.heap.size → rv.ownBlock ≠ some k → w1.heap[k]? = wr.heap[k]? := fun k hk hn => (hg.block k (by simp; omega) (fun e => hn e.symm)).trans (hA k hk)
  have nT : rv.ownBlock ≠ some Bo := own_ne h.o2 h.out (by decide)
  have n0 : s0.ownBlock ≠ some Bo := own_ne h.o0 h.out (by decide)
  have n1 : s1.ownBlock ≠ some Bo := own_ne h.o1 h.out (by decide)
  have nl : ∀ k, k < w.heap.size + 2 → rv.ownBlock ≠ some k := fun k hk e => by have := (h.o2.lt k e).1; omega
  have b0 := blk_lt h.inb
  have b1 := blk_lt h.res
  have b2 := blk_lt h.out
  have hBB := h.hB
  have hgB : (Value.slice (some ⟨g, 0, none⟩) (i + 1) cap).ownBlock ≠ some Bo := by
    intro e
    have e : g = Bo := by simpa [Value.ownBlock] using e
    rcases hat with e1 | e1
    · exact nT (e1.trans (congrArg some e))
    · omega
  have c1 : ∀ b, s1.ownBlock = some b → w1.heap[b]? = wr.heap[b]? := fun b hb => hW b (h.o1.lt b hb).2 (fun e => by
    rcases h.o1.2 with ⟨e1, _⟩ | ⟨b', _, _, e1, _, e2, _⟩
    · rw [e1] at hb; simp [Value.ownBlock] at hb
    · have : b' = b := by rw [e1] at hb; simpa [Value.ownBlock] using hb
      subst this
      exact own_ne h.o2 e2 (by decide) e)
  refine ⟨?_, ?_, ?_, ?_, ?_, ?_, ?_, h.hB, ?_⟩
  · rw [Below.heap_setCell _ _ _ _ (by dsimp only; omega), hW _ (by omega) (nl _ (by omega))]; exact h.inb
  · rw [Below.heap_setCell _ _ _ _ (by dsimp only; omega), hW _ (by omega) (nl _ (by omega))]; exact h.res
  · rw [setCell_block ((hW _ b2 nT).trans h.out) _]; simp
  · exact ownsRow_setCell_other (own_same h.o0 fun b hb => hW b (h.o0.lt b hb).2 (h.n02 b hb)) (a := ⟨Bo, 2, none⟩) n0 _
  · exact ownsRow_setCell_other (own_same h.o1 c1) (a := ⟨Bo, 2, none⟩) n1 _
  · rw [rowF_succ, hx]; exact ownsRow_setCell_other own (a := ⟨Bo, 2, none⟩) hgB _
  · intro b hb e
    have e : g = b := by simpa [Value.ownBlock] using e
    rcases hat with e1 | e1
    · exact h.n02 b hb (e1.trans (congrArg some e))
    · have := (h.o0.lt b hb).2; omega
  · have hk : Below w.heap.size w w1 := by
      refine h.k.trans ?_
      have ha := (Below.refl wr.heap.size wr).alloc (Nat.le_refl _) (.cells #[x] T)
      have hs := h.k.size
      exact (ha.mono hs).grown hg (by simp; omega) (by intro r hr; have := (h.o2.lt r hr).1; omega)
    exact hk.setCell (p := ⟨Bo, 2, none⟩) (by dsimp only; omega) _

theorem CpAt.far {w wr w1 : World} {n : Nat} {G : Nat → Int} {A : Nat → Bool} {V : Nat → Value} {r0 r1 r2 : Value} {Bo : Nat} {s0 s1 rv x : Value} {i : Nat} (h : CpAt w wr n G A V r0 r1 r2 Bo s0 s1 rv i) {T : TypeId} (hg : (wr.alloc (.cells #[x] T)).grownBy w1 rv.ownBlock) : w1.heap[Bo]? = wr.heap[Bo]? := by
  have b2 := blk_lt h.out
  exact (hg.block Bo (by simp; omega) (fun e => own_ne h.o2 h.out (by decide) e.symm)).trans (Below.heap_alloc wr _ _ b2)
theorem info_int' : (Tryd.prog.info? 3).map (fun i => (i.zero, i.size, i.bytes)) = some (some (.int .i64 0), 1, 8) := by kernel_rfl
theorem info_bool' : (Tryd.prog.info? 4).map (fun i => (i.zero, i.size, i.bytes)) = some (some (.bool false), 1, 1) := by kernel_rfl

/-- a copy of new memory -/
structure OA (w : World) (B n : Nat) (f0 f1 f2 : Nat → Value) (r0 r1 r2 : Value) : Prop where
  o0 : w.ownsRow B 3 1 r0 n (rowF n f0)
  o1 : w.ownsRow B 4 1 r1 n (rowF n f1)
  o2 : w.ownsRow B 3 1 r2 n (rowF n f2)
  n02 : ∀ g, r0.ownBlock = some g → r2.ownBlock ≠ some g

set_option maxRecDepth 100000 in
set_option maxHeartbeats 6400000 in
theorem copy_ok (w : World) {n : Nat} {ga aa va : Option Addr} {gc ac vc : Nat} {G : Nat → Int} {A : Nat → Bool} {V : Nat → Value} (hG0 : SlF w ga n (zI G)) (hA0 : SlF w aa n (zB A)) (hV0 : SlF w va n V) (hVf : ∀ j, ∃ x : Int, V j = .int .i64 x) (h1 : 1 ≤ n) (h2 : n ≤ 1024) :
    Calls Tryd.prog 56 #[.agg #[.slice ga n gc, .slice aa n ac, .slice va n vc]] w fun e w' => ∃ a0 k0 a1 k1 a2 k2, e = .returned (.agg #[.slice a0 n k0, .slice a1 n k1, .slice a2 n k2]) ∧
      OA w' (w.heap.size + 2) n (zI G) (zB A) (cV A V) (.slice a0 n k0) (.slice a1 n k1) (.slice a2 n k2) ∧ Below w.heap.size w w' := by
  obtain ⟨i0, hi0, hz0, hs0, hb0⟩ := info_parts info_int'
  obtain ⟨i1, hi1, hz1, hs1, hb1⟩ := info_parts info_bool'
  have bb := (below_box0 w (.cells #[.slice ga n gc, .slice aa n ac, .slice va n vc] 35)).trans ((below_box0 (w.alloc (.cells #[.slice ga n gc, .slice aa n ac, .slice va n vc] 35)) (.cells #[.slice none 0 0, .slice none 0 0, .slice none 0 0] 35)).mono (by simp))
  have HG0 := Lib.hid (hG0.below bb)
  have HA1 := Lib.hid (hA0.below bb)
  have HBB := Lib.hid bb
  have HGw := Lib.hid hG0
  have HAw := Lib.hid hA0
  have HVw := Lib.hid hV0
  clear hG0 hA0 hV0 bb
  go_enter Tryd.func56, Tryd.ntmps56
  go_wp2
  refine wp_region_any (by kernel_rfl) ?_
  change wpAny _ _ _ _ _ _ _ (World.drew _)
  refine wpAny_takeD 1 7 (.pointer (some ⟨w.heap.size, 0, none⟩)) rfl rfl (by kernel_rfl) (by kernel_rfl) (by kernel_rfl) (fun _ _ _ h => h) (by rfl) (fun w => by go_simp) ?_
  try simp only [Act.put, List.setIfInBounds_toArray, List.set_cons_zero, List.set_cons_succ]
  refine wpAny_takeD 5 11 (.pointer (some ⟨w.heap.size, 1, none⟩)) rfl rfl (by kernel_rfl) (by kernel_rfl) (by kernel_rfl) (fun _ _ _ h => h) (by rfl) (fun w => by go_simp) ?_
  try simp only [Act.put, List.setIfInBounds_toArray, List.set_cons_zero, List.set_cons_succ]
  generalize hWd : World.drew _ = W
  have HWD := Lib.hid hWd
  clear hWd
  have HKW : Hid (Below (w.heap.size + 2) ((w.alloc (.cells #[.slice ga n gc, .slice aa n ac, .slice va n vc] 35)).alloc (.cells #[.slice none 0 0, .slice none 0 0, .slice none 0 0] 35)) W) := Lib.hid (by rw [← HWD.out]; exact ((Below.refl _ _).drew))
  have HSZ : Hid (W.heap.size = w.heap.size + 2) := Lib.hid (by rw [← HWD.out]; simp)
  have HQ0 : Hid (W.cell? ⟨w.heap.size, 0, none⟩ = some (.slice ga n gc)) := Lib.hid (by rw [← HWD.out]; simp [go_sem])
  have HQ1 : Hid (W.cell? ⟨w.heap.size, 1, none⟩ = some (.slice aa n ac)) := Lib.hid (by rw [← HWD.out]; simp [go_sem])
  have HG := Lib.hid (show SlF W ga n (zI G) from HG0.out.below (by rw [← HWD.out]; exact (Below.refl _ _).drew))
  have HA := Lib.hid (show SlF W aa n (zB A) from HA1.out.below (by rw [← HWD.out]; exact (Below.refl _ _).drew))
  refine wpAny_named (fun A0 hA0 => ?_)
  have HA0 := Lib.hid hA0
  clear hA0
  refine wpAny_inv (fun l a wx => ∃ (f0 f2 f3 f4 f6 f7 f8 f9 : Bool) (v0 v2 v3 v4 v6 v7 v8 v9 : Value), l = #[f0, true, f2, f3, f4, true, f6, f7, f8, f9, false] ∧ a = ((((((((A0.put (some 6) v0).put (some 8) v2).put (some 9) v3).put (some 10) v4).put (some 12) v6).put (some 13) v7).put (some 14) v8).put (some 3) v9) ∧ (f0 = true → IsE v0) ∧ (f2 = true → v2 = (.slice ga n gc)) ∧ (f3 = true → OwnV W.heap.size 3 n (rowF n (zI G)) v3 wx) ∧ (f4 = true → IsE v4) ∧ (f6 = true → v6 = (.slice aa n ac)) ∧ (f7 = true → OwnV W.heap.size 4 n (rowF n (zB A)) v7 wx) ∧ (f8 = true → TwoV W.heap.size n (zI G) (zB A) v8 wx) ∧ (f9 = true → BoxV W.heap.size v9 wx) ∧ Below W.heap.size W wx) (by kernel_rfl) (by rintro l a wx ⟨_, _, _, _, _, _, _, _, _, _, _, _, _, _, _, _, rfl, _⟩; rfl) ?step _ _ _ _ (by kernel_rfl) ?start
  case start =>
    refine ⟨false, false, false, false, false, false, false, false, (A0.tmps[6]?.getD undef), (A0.tmps[8]?.getD undef), (A0.tmps[9]?.getD undef), (A0.tmps[10]?.getD undef), (A0.tmps[12]?.getD undef), (A0.tmps[13]?.getD undef), (A0.tmps[14]?.getD undef), (A0.tmps[3]?.getD undef), rfl, ?_, (fun h => by cases h), (fun h => by cases h), (fun h => by cases h), (fun h => by cases h), (fun h => by cases h), (fun h => by cases h), (fun h => by cases h), (fun h => by cases h), Below.refl _ _⟩
    simp only [put_self]
  case step =>
    rintro l a wx ⟨f0, f2, f3, f4, f6, f7, f8, f9, v0, v2, v3, v4, v6, v7, v8, v9, rfl, rfl, P0, P2, P3, P4, P6, P7, P8, P9, HB⟩
    have hA0 := HA0.out
    subst hA0
    clear HA0
    by_cases hdone : f0 = true ∧ f2 = true ∧ f3 = true ∧ f4 = true ∧ f6 = true ∧ f7 = true ∧ f8 = true ∧ f9 = true
    · left
      obtain ⟨rfl, rfl, rfl, rfl, rfl, rfl, rfl, rfl⟩ := hdone
      refine wpAny_fuel 1 (by kernel_rfl) ?_
      simp only [Act.put, List.setIfInBounds_toArray, List.set_cons_zero, List.set_cons_succ]
      have h8 := P8 rfl
      have h9 := P9 rfl
      clear P0 P2 P3 P4 P6 P7 P8 P9
      obtain ⟨a3, k3, a7, k7, e8, o3, o7⟩ := h8
      obtain ⟨Bo, e9, hBo, hbo⟩ := h9
      subst e8 e9
      have p0 : wx.cell? ⟨Bo, 0, none⟩ = some (.slice none 0 0) := by rw [cell_of_block hbo]; rfl
      have p1 : wx.cell? ⟨Bo, 1, none⟩ = some (.slice none 0 0) := by rw [cell_of_block hbo]; rfl
      have p2 : wx.cell? ⟨Bo, 2, none⟩ = some (.slice none 0 0) := by rw [cell_of_block hbo]; rfl
      have fz : ∀ j, wx.frozen? ⟨Bo, j, none⟩ = false := fun j => unfrozen_of_block hbo j
      refine wpAny_ready (rs := [10]) (by kernel_rfl) (by simp) (AllReady.cons rfl (fun K hK => ?_) AllReady.nil)
      go_simp
      refine hK _ _ ?_
      clear hK K
      refine wpAny_done (by kernel_rfl) ?_ _
      go_wp2
      generalize hW2 : World.setCell _ _ _ = W2
      have HW2 := Lib.hid hW2
      clear hW2
      have HC0 : Hid (CpAt w W2 n G A V (.slice ga n gc) (.slice aa n ac) (.slice va n vc) Bo (.slice a3 n k3) (.slice a7 n k7) (.slice none 0 0) 0) := Lib.hid (by
        have hsz := HSZ.out
        have hin : W.heap[w.heap.size]? = some (.cells #[.slice ga n gc, .slice aa n ac, .slice va n vc] 35 (0, 0)) := (HKW.out.block _ (by omega)).trans ((Below.heap_alloc _ _ _ (by simp)).trans (heap_alloc_new w _))
        have hrs : W.heap[w.heap.size + 1]? = some (.cells #[.slice none 0 0, .slice none 0 0, .slice none 0 0] 35 (0, 0)) := (HKW.out.block _ (by omega)).trans (by
          have := heap_alloc_new (w.alloc (.cells #[.slice ga n gc, .slice aa n ac, .slice va n vc] 35)) (.cells #[.slice none 0 0, .slice none 0 0, .slice none 0 0] 35)
          rwa [World.size_alloc] at this)
        have m0 : (Value.slice a3 n k3).ownBlock ≠ some Bo := own_ne o3 hbo (by decide)
        have m1 : (Value.slice a7 n k7).ownBlock ≠ some Bo := own_ne o7 hbo (by decide)
        rw [← HW2.out]
        refine ⟨?_, ?_, ?_, ?_, ?_, World.ownsRow_nil _ _ _ _, fun g _ h => by simp [Value.ownBlock] at h, by omega, ?_⟩
        · rw [Below.heap_setCell _ _ _ _ (by dsimp only; omega), Below.heap_setCell _ _ _ _ (by dsimp only; omega), Below.heap_setCell _ _ _ _ (by dsimp only; omega), HB.block _ (by omega)]; exact hin
        · rw [Below.heap_setCell _ _ _ _ (by dsimp only; omega), Below.heap_setCell _ _ _ _ (by dsimp only; omega), Below.heap_setCell _ _ _ _ (by dsimp only; omega), HB.block _ (by omega)]; exact hrs
        · rw [setCell_block (setCell_block (setCell_block hbo _) _) _]; simp
        · exact ownsRow_le (ownsRow_setCell_other (ownsRow_setCell_other (ownsRow_setCell_other o3 (a := ⟨Bo, 0, none⟩) m0 _) (a := ⟨Bo, 1, none⟩) m0 _) (a := ⟨Bo, 2, none⟩) m0 _) (by omega)
        · exact ownsRow_le (ownsRow_setCell_other (ownsRow_setCell_other (ownsRow_setCell_other o7 (a := ⟨Bo, 0, none⟩) m1 _) (a := ⟨Bo, 1, none⟩) m1 _) (a := ⟨Bo, 2, none⟩) m1 _) (by omega)
        · have hk : Below w.heap.size w wx := (HBB.out.trans (HKW.out.mono (by omega))).trans (HB.mono (by omega))
          exact ((hk.setCell (p := ⟨Bo, 0, none⟩) (by dsimp only; omega) _).setCell (p := ⟨Bo, 1, none⟩) (by dsimp only; omega) _).setCell (p := ⟨Bo, 2, none⟩) (by dsimp only; omega) _)
      clear HW2 hbo o3 o7 hBo HB p0 p1 p2 fz
      go_loopw [4] (fun x wr => ∃ (i : Nat) (rv : Value), i ≤ n ∧ x = .int .i64 i ∧ Hid (CpAt w wr n G A V (.slice ga n gc) (.slice aa n ac) (.slice va n vc) Bo (.slice a3 n k3) (.slice a7 n k7) rv i)) (fun x _ => n - (intOf x).toNat)
      case atStart => exact ⟨0, .slice none 0 0, Nat.zero_le _, rfl, HC0⟩
      case round =>
        clear HC0
        obtain ⟨i, rv, hi, rfl, HS⟩ := hrel
        have b0 := HS.out.inb
        have b1 := HS.out.out
        have b3 := HS.out.res
        obtain ⟨ra, rc, rfl⟩ := own_slice HS.out.o2
        have c1 : wr.cell? ⟨w.heap.size, 1, none⟩ = some (.slice aa n ac) := by rw [cell_of_block b0]; rfl
        have c2 : wr.cell? ⟨w.heap.size, 2, none⟩ = some (.slice va n vc) := by rw [cell_of_block b0]; rfl
        have d0 : wr.cell? ⟨Bo, 0, none⟩ = some (.slice a3 n k3) := by rw [cell_of_block b1]; rfl
        have d1 : wr.cell? ⟨Bo, 1, none⟩ = some (.slice a7 n k7) := by rw [cell_of_block b1]; rfl
        have d2 : wr.cell? ⟨Bo, 2, none⟩ = some (.slice ra i rc) := by rw [cell_of_block b1]; rfl
        by_cases hlt2 : i < n
        · have hlb : decide (i < n) = true := by simpa using hlt2
          have hli : (i : Int) < (n : Int) := by omega
          have hl0 : (0 : Int) ≤ (i : Int) := by omega
          obtain ⟨ab, ao, rfl, ca⟩ := (HAw.out.below HS.out.k).at_ hlt2
          obtain ⟨vb, vo, rfl, cv⟩ := (HVw.out.below HS.out.k).at_ hlt2
          obtain ⟨al, hal⟩ : ∃ al, A i = al := ⟨_, rfl⟩
          obtain ⟨v, hv⟩ := hVf i
          have hcv : cV A V i = if al then .int .i64 v else .int .i64 0 := by unfold cV; rw [hal, hv]
          dsimp only [zB] at ca
          rw [hal] at ca
          rw [hv] at cv
          have hBl := blk_lt b1
          have hown := HS.out.o2
          have HX := Lib.hid hcv
          clear hal hv hcv b0 b1 b3 hown
          cases al with
          | true =>
            go_wp2_with (at_builtin; refine wpList_append_lies _ rfl (.tmp 33) (.tmp 35) 32 rfl (w.heap.size + 2) 3 i0 (.int .i64 0) 1 8 Tryd.underlying32 hi0 hz0 hs0 hb0 rfl (by decide) (.slice ra i rc) i (rowF i (cV A V)) rfl (HS.out.o2.alloc _) ⟨wr.heap.size, 0, none⟩ 1 1 [.int .i64 v] rfl rfl (World.news_of_block (heap_alloc_new wr _)) (by intro u hu; simp at hu; subst hu; rfl) (by decide) (by simp only [maxLen]; omega) (by omega) (by have := HS.out.hB; simp; omega) (wr.heap.size + 1) (by simp) ?_)
            intro g cap w1 hown hgrow hat hlt1
            have e1 : w1.cell? ⟨Bo, 2, none⟩ = some (.slice ra i rc) := (World.cell?_of_block (HS.out.far hgrow)).trans d2
            have f1 : w1.frozen? ⟨Bo, 2, none⟩ = false := (World.frozen?_of_block (HS.out.far hgrow)).trans (unfrozen_of_block HS.out.out 2)
            have HN := Lib.hid (HS.out.next HX.out hown hgrow hat)
            clear hown hgrow hat
            go_wp2
            refine ⟨⟨i + 1, _, by omega, by simp, HN⟩, by simp [intOf]; omega⟩
          | false =>
            go_wp2_with (at_builtin; refine wpList_append_lies _ rfl (.tmp 33) (.tmp 35) 32 rfl (w.heap.size + 2) 3 i0 (.int .i64 0) 1 8 Tryd.underlying32 hi0 hz0 hs0 hb0 rfl (by decide) (.slice ra i rc) i (rowF i (cV A V)) rfl (HS.out.o2.alloc _) ⟨wr.heap.size, 0, none⟩ 1 1 [.int .i64 0] rfl rfl (World.news_of_block (heap_alloc_new wr _)) (by intro u hu; simp at hu; subst hu; rfl) (by decide) (by simp only [maxLen]; omega) (by omega) (by have := HS.out.hB; simp; omega) (wr.heap.size + 1) (by simp) ?_)
            intro g cap w1 hown hgrow hat hlt1
            have e1 : w1.cell? ⟨Bo, 2, none⟩ = some (.slice ra i rc) := (World.cell?_of_block (HS.out.far hgrow)).trans d2
            have f1 : w1.frozen? ⟨Bo, 2, none⟩ = false := (World.frozen?_of_block (HS.out.far hgrow)).trans (unfrozen_of_block HS.out.out 2)
            have HN := Lib.hid (HS.out.next HX.out hown hgrow hat)
            clear hown hgrow hat
            go_wp2
            refine ⟨⟨i + 1, _, by omega, by simp, HN⟩, by simp [intOf]; omega⟩
        · have hlb : decide (i < n) = false := by simpa using hlt2
          obtain rfl : i = n := by omega
          have r0 : wr.cell? ⟨w.heap.size + 1, 0, none⟩ = some (.slice none 0 0) := by rw [cell_of_block b3]; rfl
          have r1 : wr.cell? ⟨w.heap.size + 1, 1, none⟩ = some (.slice none 0 0) := by rw [cell_of_block b3]; rfl
          have r2 : wr.cell? ⟨w.heap.size + 1, 2, none⟩ = some (.slice none 0 0) := by rw [cell_of_block b3]; rfl
          have fz : ∀ j, wr.frozen? ⟨w.heap.size + 1, j, none⟩ = false := fun j => unfrozen_of_block b3 j
          clear b0 b1 b3
          go_wp2
          refine bodyPost_ret (v := .agg #[.slice a3 i k3, .slice a7 i k7, .slice ra i rc]) (by simp [results, Tryd.f56, go_sem, r0, r1, r2]) rfl ?_
          have hS := HS.out
          have hlt3 : ∀ j : Nat, (⟨w.heap.size + 1, j, none⟩ : Addr).block < w.heap.size + 2 := fun j => by dsimp only; omega
          exact ⟨a3, k3, a7, k7, ra, rc, rfl, ⟨ownsRow_setCell_below (ownsRow_setCell_below (ownsRow_setCell_below hS.o0 (hlt3 0) _) (hlt3 1) _) (hlt3 2) _, ownsRow_setCell_below (ownsRow_setCell_below (ownsRow_setCell_below hS.o1 (hlt3 0) _) (hlt3 1) _) (hlt3 2) _, ownsRow_setCell_below (ownsRow_setCell_below (ownsRow_setCell_below hS.o2 (hlt3 0) _) (hlt3 1) _) (hlt3 2) _, hS.n02⟩,
            ((hS.k.setCell (p := ⟨w.heap.size + 1, 0, none⟩) (by dsimp only; omega) _).setCell (p := ⟨w.heap.size + 1, 1, none⟩) (by dsimp only; omega) _).setCell (p := ⟨w.heap.size + 1, 2, none⟩) (by dsimp only; omega) _⟩
    · right
      refine ⟨openOps_pos (i := 10) (by decide) rfl, fun i hi => ?_⟩
      obtain ⟨ho, hlt⟩ := ready_open hi
      have hlt2 : i < 11 := hlt
      rcases (by omega : i = 0 ∨ i = 1 ∨ i = 2 ∨ i = 3 ∨ i = 4 ∨ i = 5 ∨ i = 6 ∨ i = 7 ∨ i = 8 ∨ i = 9 ∨ i = 10) with rfl | rfl | rfl | rfl | rfl | rfl | rfl | rfl | rfl | rfl | rfl
      · refine wpOp_step rfl (fun K hK => ?_)
        simp only [Act.put, List.setIfInBounds_toArray, List.set_cons_zero, List.set_cons_succ]
        go_simp
        have hb1 : Below wx.heap.size wx (wx.alloc (.cells #[] 3)) := below_box0 _ _
        refine hK _ _ ⟨true, f2, f3, f4, f6, f7, f8, f9, (.slice (some ⟨wx.heap.size, 0, none⟩) 0 0), v2, v3, v4, v6, v7, v8, v9, ?_, ?_, (fun _ => ⟨_, rfl⟩), (fun hf => (P2 hf)), (fun hf => ((P3 hf)).below hb1), (fun hf => (P4 hf)), (fun hf => (P6 hf)), (fun hf => ((P7 hf)).below hb1), (fun hf => ((P8 hf)).below hb1), (fun hf => ((P9 hf)).below hb1), below_tr HB hb1⟩
        · rfl
        · simp only [Act.put, List.setIfInBounds_toArray, List.set_cons_zero, List.set_cons_succ]
      · exact absurd (show true = false from ho) (by decide)
      · have q0 : wx.cell? ⟨w.heap.size, 0, none⟩ = some (.slice ga n gc) := (HB.cell (p := ⟨w.heap.size, 0, none⟩) (by have := HSZ.out; dsimp only; omega)).trans HQ0.out
        refine wpOp_step rfl (fun K hK => ?_)
        simp only [Act.put, List.setIfInBounds_toArray, List.set_cons_zero, List.set_cons_succ]
        go_simp
        have hb1 : Below wx.heap.size wx wx := Below.refl _ _
        refine hK _ _ ⟨f0, true, f3, f4, f6, f7, f8, f9, v0, (.slice ga n gc), v3, v4, v6, v7, v8, v9, ?_, ?_, (fun hf => (P0 hf)), (fun _ => rfl), (fun hf => ((P3 hf)).below hb1), (fun hf => (P4 hf)), (fun hf => (P6 hf)), (fun hf => ((P7 hf)).below hb1), (fun hf => ((P8 hf)).below hb1), (fun hf => ((P9 hf)).below hb1), below_tr HB hb1⟩
        · rfl
        · simp only [Act.put, List.setIfInBounds_toArray, List.set_cons_zero, List.set_cons_succ]
      · have n0 := P0 (needs_ready (j := 0) hi (by kernel_rfl))
        have n2 := P2 (needs_ready (j := 2) hi (by kernel_rfl))
        obtain ⟨e0, he0⟩ := n0
        obtain ⟨sb, so, hsa, hsc⟩ := HG.out.resolve_left (by omega)
        subst hsa
        refine wpOp_step rfl (fun K hK => ?_)
        simp only [Act.put, List.setIfInBounds_toArray, List.set_cons_zero, List.set_cons_succ]
        refine (if_pos (show Region.wanted _ _ = true from rfl)).mpr ?_
        refine wp_append_grows (by rfl) (.tmp 6) (.tmp 8) 32 (by rfl) 3 i0 (.int .i64 0) 1 8 Tryd.underlying32 hi0 hz0 hs0 hb0 rfl (by decide) e0 he0 ⟨sb, so, none⟩ n _ (rowF n (zI G)) n2 (by simp [rowF]) (rowF_cells (fun j hj => (HB.cell (p := ⟨sb, so + j, none⟩) (World.block_lt_of_cell? _ _ (hsc j hj))).trans (hsc j hj))) (rowF_one (fun j => rfl)) (by omega) (by simp only [maxLen]; omega) (by omega) ?_
        intro v1 w1 hown hgrow
        have hb1 : Below wx.heap.size wx w1 := below_grown hgrow
        refine hK _ _ ⟨f0, f2, true, f4, f6, f7, f8, f9, v0, v2, v1, v4, v6, v7, v8, v9, ?_, ?_, (fun hf => (P0 hf)), (fun hf => (P2 hf)), (fun _ => OwnV.mk (ownsRow_le hown HB.size)), (fun hf => (P4 hf)), (fun hf => (P6 hf)), (fun hf => ((P7 hf)).below hb1), (fun hf => ((P8 hf)).below hb1), (fun hf => ((P9 hf)).below hb1), below_tr HB hb1⟩
        · rfl
        · simp only [List.getElem_toArray, List.getElem_cons_succ, List.getElem_cons_zero, Act.put, List.setIfInBounds_toArray, List.set_cons_zero, List.set_cons_succ]
      · refine wpOp_step rfl (fun K hK => ?_)
        simp only [Act.put, List.setIfInBounds_toArray, List.set_cons_zero, List.set_cons_succ]
        go_simp
        have hb1 : Below wx.heap.size wx (wx.alloc (.cells #[] 4)) := below_box0 _ _
        refine hK _ _ ⟨f0, f2, f3, true, f6, f7, f8, f9, v0, v2, v3, (.slice (some ⟨wx.heap.size, 0, none⟩) 0 0), v6, v7, v8, v9, ?_, ?_, (fun hf => (P0 hf)), (fun hf => (P2 hf)), (fun hf => ((P3 hf)).below hb1), (fun _ => ⟨_, rfl⟩), (fun hf => (P6 hf)), (fun hf => ((P7 hf)).below hb1), (fun hf => ((P8 hf)).below hb1), (fun hf => ((P9 hf)).below hb1), below_tr HB hb1⟩
        · rfl
        · simp only [Act.put, List.setIfInBounds_toArray, List.set_cons_zero, List.set_cons_succ]
      · exact absurd (show true = false from ho) (by decide)
      · have q0 : wx.cell? ⟨w.heap.size, 1, none⟩ = some (.slice aa n ac) := (HB.cell (p := ⟨w.heap.size, 1, none⟩) (by have := HSZ.out; dsimp only; omega)).trans HQ1.out
        refine wpOp_step rfl (fun K hK => ?_)
        simp only [Act.put, List.setIfInBounds_toArray, List.set_cons_zero, List.set_cons_succ]
        go_simp
        have hb1 : Below wx.heap.size wx wx := Below.refl _ _
        refine hK _ _ ⟨f0, f2, f3, f4, true, f7, f8, f9, v0, v2, v3, v4, (.slice aa n ac), v7, v8, v9, ?_, ?_, (fun hf => (P0 hf)), (fun hf => (P2 hf)), (fun hf => ((P3 hf)).below hb1), (fun hf => (P4 hf)), (fun _ => rfl), (fun hf => ((P7 hf)).below hb1), (fun hf => ((P8 hf)).below hb1), (fun hf => ((P9 hf)).below hb1), below_tr HB hb1⟩
        · rfl
        · simp only [Act.put, List.setIfInBounds_toArray, List.set_cons_zero, List.set_cons_succ]
      · have n4 := P4 (needs_ready (j := 4) hi (by kernel_rfl))
        have n6 := P6 (needs_ready (j := 6) hi (by kernel_rfl))
        obtain ⟨e4, he4⟩ := n4
        obtain ⟨sb, so, hsa, hsc⟩ := HA.out.resolve_left (by omega)
        subst hsa
        refine wpOp_step rfl (fun K hK => ?_)
        simp only [Act.put, List.setIfInBounds_toArray, List.set_cons_zero, List.set_cons_succ]
        refine (if_pos (show Region.wanted _ _ = true from rfl)).mpr ?_
        refine wp_append_grows (by rfl) (.tmp 10) (.tmp 12) 33 (by rfl) 4 i1 (.bool false) 1 1 Tryd.underlying33 hi1 hz1 hs1 hb1 rfl (by decide) e4 he4 ⟨sb, so, none⟩ n _ (rowF n (zB A)) n6 (by simp [rowF]) (rowF_cells (fun j hj => (HB.cell (p := ⟨sb, so + j, none⟩) (World.block_lt_of_cell? _ _ (hsc j hj))).trans (hsc j hj))) (rowF_one (fun j => rfl)) (by omega) (by simp only [maxLen]; omega) (by omega) ?_
        intro v1 w1 hown hgrow
        have hb1 : Below wx.heap.size wx w1 := below_grown hgrow
        refine hK _ _ ⟨f0, f2, f3, f4, f6, true, f8, f9, v0, v2, v3, v4, v6, v1, v8, v9, ?_, ?_, (fun hf => (P0 hf)), (fun hf => (P2 hf)), (fun hf => ((P3 hf)).below hb1), (fun hf => (P4 hf)), (fun hf => (P6 hf)), (fun _ => OwnV.mk (ownsRow_le hown HB.size)), (fun hf => ((P8 hf)).below hb1), (fun hf => ((P9 hf)).below hb1), below_tr HB hb1⟩
        · rfl
        · simp only [List.getElem_toArray, List.getElem_cons_succ, List.getElem_cons_zero, Act.put, List.setIfInBounds_toArray, List.set_cons_zero, List.set_cons_succ]
      · have n3 := P3 (needs_ready (j := 3) hi (by kernel_rfl))
        have n7 := P7 (needs_ready (j := 7) hi (by kernel_rfl))
        obtain ⟨a3, k3, e3, o3⟩ := n3
        obtain ⟨a7, k7, e7, o7⟩ := n7
        subst e3 e7
        refine wpOp_step rfl (fun K hK => ?_)
        simp only [Act.put, List.setIfInBounds_toArray, List.set_cons_zero, List.set_cons_succ]
        go_simp
        have hb1 : Below wx.heap.size wx wx := Below.refl _ _
        refine hK _ _ ⟨f0, f2, f3, f4, f6, f7, true, f9, v0, v2, (.slice a3 n k3), v4, v6, (.slice a7 n k7), (.agg #[.slice a3 n k3, .slice a7 n k7, .slice none 0 0]), v9, ?_, ?_, (fun hf => (P0 hf)), (fun hf => (P2 hf)), (fun hf => ((P3 hf)).below hb1), (fun hf => (P4 hf)), (fun hf => (P6 hf)), (fun hf => ((P7 hf)).below hb1), (fun _ => ⟨a3, k3, a7, k7, rfl, o3, o7⟩), (fun hf => ((P9 hf)).below hb1), below_tr HB hb1⟩
        · rfl
        · simp only [Act.put, List.setIfInBounds_toArray, List.set_cons_zero, List.set_cons_succ]
      · refine wpOp_step rfl (fun K hK => ?_)
        simp only [Act.put, List.setIfInBounds_toArray, List.set_cons_zero, List.set_cons_succ]
        go_simp
        have hb1 : Below wx.heap.size wx (wx.alloc (.cells #[.slice none 0 0, .slice none 0 0, .slice none 0 0] 35)) := below_box0 _ _
        refine hK _ _ ⟨f0, f2, f3, f4, f6, f7, f8, true, v0, v2, v3, v4, v6, v7, v8, (.pointer (some ⟨wx.heap.size, 0, none⟩)), ?_, ?_, (fun hf => (P0 hf)), (fun hf => (P2 hf)), (fun hf => ((P3 hf)).below hb1), (fun hf => (P4 hf)), (fun hf => (P6 hf)), (fun hf => ((P7 hf)).below hb1), (fun hf => ((P8 hf)).below hb1), (fun _ => ⟨_, rfl, HB.size, heap_alloc_new wx _⟩), below_tr HB hb1⟩
        · rfl
        · simp only [Act.put, List.setIfInBounds_toArray, List.set_cons_zero, List.set_cons_succ]
      · exact absurd ⟨needs_ready (j := 0) hi (by kernel_rfl), needs_ready (j := 2) hi (by kernel_rfl), needs_ready (j := 3) hi (by kernel_rfl), needs_ready (j := 4) hi (by kernel_rfl), needs_ready (j := 6) hi (by kernel_rfl), needs_ready (j := 7) hi (by kernel_rfl), needs_ready (j := 8) hi (by kernel_rfl), needs_ready (j := 9) hi (by kernel_rfl)⟩ hdone
theorem OA.ra {w : World} {B n : Nat} {G : Nat → Int} {A : Nat → Bool} {V : Nat → Value} {a0 a1 a2 : Option Addr} {k0 k1 k2 : Nat} (h : OA w B n (zI G) (zB A) (cV A V) (.slice a0 n k0) (.slice a1 n k1) (.slice a2 n k2)) (hb : ∀ j, j < n → badS G A j = false) :
    RS w (.agg #[.slice a0 n k0, .slice a1 n k1, .slice a2 n k2]) (stP n G A V (.int .i64 0) n) := by
  have hl : (stP n G A V (.int .i64 0) n).length = n := stP_length
  refine ⟨a0, k0, a1, k1, a2, k2, by rw [hl], ?_, ?_, ?_⟩
  · rw [hl]
    exact (SlF.of_row h.o0).congr fun j hj => by
      unfold zI gF
      rw [stP_get hj, if_pos hj]
      have := (badS_ok (hb j hj)).1
      simp only
      rw [Int.toNat_of_nonneg this]
  · rw [hl]
    exact (SlF.of_row h.o1).congr fun j hj => by
      unfold zB aF
      rw [stP_get hj, if_pos hj]
  · rw [hl]
    exact (SlF.of_row h.o2).congr fun j hj => by
      unfold cV vF
      rw [stP_get hj, if_pos hj]

section
variable {n na nv : Nat} {ga aa va : Option Addr} {gc ac vc : Nat} {G : Nat → Int} {A : Nat → Bool} {V : Nat → Value}
set_option maxRecDepth 100000 in
set_option maxHeartbeats 1600000 in
theorem rload_err (w : World) (hG : SlF w ga n (zI G)) (hA : SlF w aa na (zB A)) (he : hcE n na nv G A ≠ 0) :
    Calls Tryd.prog 19 #[.agg #[.slice ga n gc, .slice aa na ac, .slice va nv vc]] w fun e w' => e = .returned (.tuple #[.agg #[.slice none 0 0, .slice none 0 0, .slice none 0 0], .int .i64 (hcE n na nv G A)]) ∧ Below w.heap.size w w' := by
  have hb0 := (below_box0 w (.cells #[.slice ga n gc, .slice aa na ac, .slice va nv vc] 35)).trans ((below_box0 (w.alloc (.cells #[.slice ga n gc, .slice aa na ac, .slice va nv vc] 35)) (.cells #[.slice none 0 0, .slice none 0 0, .slice none 0 0] 35)).mono (by simp))
  have HB := Lib.hid hb0
  have HG := Lib.hid (hG.below hb0)
  have HA := Lib.hid (hA.below hb0)
  have hb := bne0_true he
  clear hb0 he hG hA
  go_enter Tryd.func19, Tryd.ntmps19
  go_wp2_with fail
  refine (rcheck_ok _ HG.out HA.out).mono ?_
  rintro e w1 ⟨rfl, b1⟩
  have HB1 := Lib.hid (HB.out.trans (b1.mono (by simp; omega)))
  have q0 : w1.cell? ⟨w.heap.size + 1, 0, none⟩ = some (.slice none 0 0) := (b1.cell (p := ⟨w.heap.size + 1, 0, none⟩) (by simp)).trans (by simp [go_sem])
  have q1 : w1.cell? ⟨w.heap.size + 1, 1, none⟩ = some (.slice none 0 0) := (b1.cell (p := ⟨w.heap.size + 1, 1, none⟩) (by simp)).trans (by simp [go_sem])
  have q2 : w1.cell? ⟨w.heap.size + 1, 2, none⟩ = some (.slice none 0 0) := (b1.cell (p := ⟨w.heap.size + 1, 2, none⟩) (by simp)).trans (by simp [go_sem])
  have qz : ∀ j, w1.frozen? ⟨w.heap.size + 1, j, none⟩ = false := fun j => (b1.frozen (p := ⟨w.heap.size + 1, j, none⟩) (by simp)).trans (by simp [go_sem])
  clear b1
  go_wp2
  refine bodyPost_ret (v := .tuple #[.agg #[.slice none 0 0, .slice none 0 0, .slice none 0 0], .int .i64 (hcE n na nv G A)]) (by simp [results, Tryd.f19, go_sem, q0, q1, q2]) rfl ?_
  exact ⟨rfl, ((HB1.out.setCell (p := ⟨w.heap.size + 1, 0, none⟩) (by dsimp only; omega) _).setCell (p := ⟨w.heap.size + 1, 1, none⟩) (by dsimp only; omega) _).setCell (p := ⟨w.heap.size + 1, 2, none⟩) (by dsimp only; omega) _⟩
set_option maxRecDepth 100000 in
set_option maxHeartbeats 1600000 in
theorem rload_ok (w : World) (hG : SlF w ga n (zI G)) (hA : SlF w aa na (zB A)) (hV : SlF w va nv V) (hVf : ∀ j, ∃ x : Int, V j = .int .i64 x) (he : hcE n na nv G A = 0) :
    Calls Tryd.prog 19 #[.agg #[.slice ga n gc, .slice aa na ac, .slice va nv vc]] w fun e w' => ∃ x, e = .returned (.tuple #[x, .int .i64 0]) ∧ RS w' x (stP n G A V (.int .i64 0) n) ∧ Below w.heap.size w w' := by
  obtain ⟨h1, h2, rfl, rfl, hbad⟩ := hcE_zero he
  have hb0 := (below_box0 w (.cells #[.slice ga nv gc, .slice aa nv ac, .slice va nv vc] 35)).trans ((below_box0 (w.alloc (.cells #[.slice ga nv gc, .slice aa nv ac, .slice va nv vc] 35)) (.cells #[.slice none 0 0, .slice none 0 0, .slice none 0 0] 35)).mono (by simp))
  have HB := Lib.hid hb0
  have HG := Lib.hid (hG.below hb0)
  have HA := Lib.hid (hA.below hb0)
  have HV := Lib.hid (hV.below hb0)
  have HE := Lib.hid he
  have HBad := Lib.hid hbad
  clear hb0 he hG hA hV hbad
  go_enter Tryd.func19, Tryd.ntmps19
  go_wp2_with fail
  refine (rcheck_ok _ HG.out HA.out).mono ?_
  rintro e w1 ⟨rfl, b1⟩
  rw [HE.out]
  have HB1 := Lib.hid (HB.out.trans (b1.mono (by simp; omega)))
  have k0 : w1.cell? ⟨w.heap.size, 0, none⟩ = some (.slice ga nv gc) := (b1.cell (p := ⟨w.heap.size, 0, none⟩) (by simp; omega)).trans (by simp [go_sem])
  have k1 : w1.cell? ⟨w.heap.size, 1, none⟩ = some (.slice aa nv ac) := (b1.cell (p := ⟨w.heap.size, 1, none⟩) (by simp; omega)).trans (by simp [go_sem])
  have k2 : w1.cell? ⟨w.heap.size, 2, none⟩ = some (.slice va nv vc) := (b1.cell (p := ⟨w.heap.size, 2, none⟩) (by simp; omega)).trans (by simp [go_sem])
  have q0 : w1.cell? ⟨w.heap.size + 1, 0, none⟩ = some (.slice none 0 0) := (b1.cell (p := ⟨w.heap.size + 1, 0, none⟩) (by simp)).trans (by simp [go_sem])
  have q1 : w1.cell? ⟨w.heap.size + 1, 1, none⟩ = some (.slice none 0 0) := (b1.cell (p := ⟨w.heap.size + 1, 1, none⟩) (by simp)).trans (by simp [go_sem])
  have q2 : w1.cell? ⟨w.heap.size + 1, 2, none⟩ = some (.slice none 0 0) := (b1.cell (p := ⟨w.heap.size + 1, 2, none⟩) (by simp)).trans (by simp [go_sem])
  have qz : ∀ j, w1.frozen? ⟨w.heap.size + 1, j, none⟩ = false := fun j => (b1.frozen (p := ⟨w.heap.size + 1, j, none⟩) (by simp)).trans (by simp [go_sem])
  have hsz : w.heap.size + 2 ≤ w1.heap.size := by have := b1.size; simp at this; omega
  have HG1 := Lib.hid (HG.out.below b1)
  have HA1 := Lib.hid (HA.out.below b1)
  have HV1 := Lib.hid (HV.out.below b1)
  clear b1
  go_wp2_with fail
  refine (copy_ok _ HG1.out HA1.out HV1.out hVf h1 h2).mono ?_
  rintro e w2 ⟨a0, l0, a1, l1, a2, l2, rfl, oa, b2⟩
  have s0 := (b2.cell (p := ⟨w.heap.size + 1, 0, none⟩) (by dsimp only; omega)).trans q0
  have s1 := (b2.cell (p := ⟨w.heap.size + 1, 1, none⟩) (by dsimp only; omega)).trans q1
  have s2 := (b2.cell (p := ⟨w.heap.size + 1, 2, none⟩) (by dsimp only; omega)).trans q2
  have sz : ∀ j, w2.frozen? ⟨w.heap.size + 1, j, none⟩ = false := fun j => (b2.frozen (p := ⟨w.heap.size + 1, j, none⟩) (by dsimp only; omega)).trans (qz j)
  have HO := Lib.hid oa
  have HB2 := Lib.hid (HB1.out.trans (b2.mono (by omega)))
  clear oa b2
  go_wp2
  refine bodyPost_ret (v := .tuple #[.agg #[.slice a0 nv l0, .slice a1 nv l1, .slice a2 nv l2], .int .i64 0]) (by simp [results, Tryd.f19, go_sem, s0, s1, s2]) rfl ?_
  have ho := HO.out
  have hlt3 : ∀ j : Nat, (⟨w.heap.size + 1, j, none⟩ : Addr).block < w1.heap.size + 2 := fun j => by dsimp only; omega
  exact ⟨_, rfl, OA.ra ⟨ownsRow_setCell_below (ownsRow_setCell_below (ownsRow_setCell_below ho.o0 (hlt3 0) _) (hlt3 1) _) (hlt3 2) _, ownsRow_setCell_below (ownsRow_setCell_below (ownsRow_setCell_below ho.o1 (hlt3 0) _) (hlt3 1) _) (hlt3 2) _, ownsRow_setCell_below (ownsRow_setCell_below (ownsRow_setCell_below ho.o2 (hlt3 0) _) (hlt3 1) _) (hlt3 2) _, ho.n02⟩ HBad.out,
    ((HB2.out.setCell (p := ⟨w.heap.size + 1, 0, none⟩) (by dsimp only; omega) _).setCell (p := ⟨w.heap.size + 1, 1, none⟩) (by dsimp only; omega) _).setCell (p := ⟨w.heap.size + 1, 2, none⟩) (by dsimp only; omega) _⟩
end
end Go.Proofs.YtpaecmpiokkdnaaDoor
