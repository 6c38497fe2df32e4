/- Handles of Things: Save. -/
import Derived.Test.YtpaecmpiokkdnaaDoorTypesZ7
import Derived.Test.YtpaecmpiokkdnaaDoorTypesZ9
import Derived.RegionTactic
namespace Go.Proofs.YtpaecmpiokkdnaaDoor.Thing
open Go.RowKit Go.Sort Go.Joins
attribute [local go_sem] cell_grow frozen_grow size_grow

def gvs (st : List Slt) : List Value := st.map fun s => .int .i64 (s.1 : Int)
def als (st : List Slt) : List Value := st.map fun s => .bool s.2.1
def vls (st : List Slt) : List Value := st.flatMap fun s => [a0 s.2.2, a1 s.2.2]
theorem take_next {α : Type} (f : Slt → α) {st : List Slt} {i : Nat} {s : Slt} (hi : i < st.length) (hs : st.getD i (0, false, undef) = s) : (st.take (i + 1)).map f = (st.take i).map f ++ [f s] := by
  rw [List.take_succ_eq_append_getElem hi, List.map_append, List.map_singleton, ← hs, List.getD_eq_getElem?_getD, List.getElem?_eq_getElem hi]; rfl

theorem take_next2 {st : List Slt} {i : Nat} {s : Slt} (hi : i < st.length) (hs : st.getD i (0, false, undef) = s) : vls (st.take (i + 1)) = vls (st.take i) ++ [a0 s.2.2, a1 s.2.2] := by
  unfold vls
  rw [List.take_succ_eq_append_getElem hi, List.flatMap_append, ← hs, List.getD_eq_getElem?_getD, List.getElem?_eq_getElem hi]
  simp
theorem vls_at : ∀ (st : List Slt) (j : Nat) (_ : j < st.length), (vls st)[j * 2]? = some (a0 (vF st j)) ∧ (vls st)[j * 2 + 1]? = some (a1 (vF st j))
  | [], _, h => by simp at h
  | s :: l, 0, _ => ⟨rfl, rfl⟩
  | s :: l, j + 1, h => by
    obtain ⟨h1, h2⟩ := vls_at l j (by simpa using h)
    have e : vls (s :: l) = a0 s.2.2 :: a1 s.2.2 :: vls l := rfl
    rw [e, show (j + 1) * 2 = j * 2 + 1 + 1 by omega]
    exact ⟨h1, h2⟩
theorem SlT.of_own {w : World} {base n : Nat} {e : TypeId} {a : Option Addr} {cap : Nat} {xs : List Value} {f : Nat → Value} (h : w.ownsRow base e 2 (.slice a n cap) n xs) (hf : ∀ j, j < n → xs[j * 2]? = some (a0 (f j)) ∧ xs[j * 2 + 1]? = some (a1 (f j))) : SlT w a n f := by
  rcases Nat.eq_zero_or_pos n with h0 | hp
  · exact .inl h0
  · obtain ⟨g, cap', he⟩ := ownsRow_form h hp
    simp only [Value.slice.injEq] at he
    obtain ⟨rfl, _, rfl⟩ := he
    refine .inr ⟨g, 0, rfl, fun j hj => ?_⟩
    have hl := h.1
    obtain ⟨h1, h2⟩ := hf j hj
    rw [Nat.zero_add]
    exact ⟨by rw [h.cellAt (j * 2) (by omega), h1], by rw [h.cellAt (j * 2 + 1) (by omega), h2]⟩
/-- a state of Things that reads as a list of slots -/
def RT (w : World) (x : Value) (st : List Slt) : Prop := ∃ ga gc aa ac va vc, x = .agg #[.slice ga st.length gc, .slice aa st.length ac, .slice va st.length vc] ∧ SlF w ga st.length (zI (gF st)) ∧ SlF w aa st.length (zB (aF st)) ∧ SlT w va st.length (vF st)

theorem own_slice2 {w : World} {base len size : Nat} {e : TypeId} {v : Value} {xs : List Value} (h : w.ownsRow base e size v len xs) : ∃ a cap, v = .slice a len cap := by
  rcases ownsRow_forms h with ⟨rfl, rfl⟩ | ⟨g, cap, rfl⟩
  · exact ⟨_, _, rfl⟩
  · exact ⟨_, _, rfl⟩
theorem info_int : (Tryd.prog.info? 3).map (fun i => (i.zero, i.size, i.bytes)) = some (some (.int .i64 0), 1, 8) := by kernel_rfl
theorem info_bool : (Tryd.prog.info? 4).map (fun i => (i.zero, i.size, i.bytes)) = some (some (.bool false), 1, 1) := by kernel_rfl
theorem info_val : (Tryd.prog.info? 75).map (fun i => (i.zero, i.size, i.bytes)) = some (some (.agg #[.string ⟨#[]⟩, .int .i64 0]), 2, 24) := by kernel_rfl

structure SvAt (w wr : World) (st : List Slt) (i : Nat) (r0 r1 r2 : Value) : Prop where
  box : wr.heap[w.heap.size + 1]? = some (.cells #[r0, r1, r2] 83 (0, 0))
  out : wr.heap[w.heap.size]? = some (.cells #[.slice none 0 0, .slice none 0 0, .slice none 0 0] 83 (0, 0))
  o0 : wr.ownsRow (w.heap.size + 2) 3 1 r0 i (gvs (st.take i))
  o1 : wr.ownsRow (w.heap.size + 2) 4 1 r1 i (als (st.take i))
  o2 : wr.ownsRow (w.heap.size + 2) 75 2 r2 i (vls (st.take i))
  n01 : ∀ g, r0.ownBlock = some g → r1.ownBlock ≠ some g
  n02 : ∀ g, r0.ownBlock = some g → r2.ownBlock ≠ some g
  n12 : ∀ g, r1.ownBlock = some g → r2.ownBlock ≠ some g
  k : Below w.heap.size w wr

/-- the loop's relation after a round -/
theorem SvAt.next {w wr W wx : World} {st : List Slt} {i g : Nat} {al : Bool} {xs : ByteArray} {x : Int} {r0 r1 r2 : Value} {t0 t1 t2 : TypeId} {D0 D1 D2 : ChDyn} {g0 g1 g2 k0 k1 k2 : Nat} (hS : SvAt w wr st i r0 r1 r2) (hW : Below w.heap.size w W)
    (HC : Chains W [(ChSpec.mk (w.heap.size + 2) 3 t0 r0 i (gvs (st.take i)) (.int .i64 (g : Nat)) [.int .i64 (g : Nat)], D0), (ChSpec.mk (w.heap.size + 2) 4 t1 r1 i (als (st.take i)) (.bool al) [.bool al], D1), (ChSpec.mk (w.heap.size + 2) 75 t2 r2 i (vls (st.take i)) (.agg #[.string xs, .int .i64 x]) [.string xs, .int .i64 x], D2)] wx)
    (hbW : W.heap[w.heap.size]? = wr.heap[w.heap.size]?) (box : wx.heap[w.heap.size + 1]? = some (.cells #[r0, r1, r2] 83 (0, 0))) (hlt : i < st.length) (hg : st.getD i (0, false, undef) = (g, al, .agg #[.string xs, .int .i64 x]))
    (own0 : wx.ownsRow (w.heap.size + 2) 3 1 (.slice (some ⟨g0, 0, none⟩) (i + 1) k0) (i + 1) (gvs (st.take i) ++ [.int .i64 (g : Nat)]))
    (own1 : wx.ownsRow (w.heap.size + 2) 4 1 (.slice (some ⟨g1, 0, none⟩) (i + 1) k1) (i + 1) (als (st.take i) ++ [.bool al]))
    (own2 : wx.ownsRow (w.heap.size + 2) 75 2 (.slice (some ⟨g2, 0, none⟩) (i + 1) k2) (i + 1) (vls (st.take i) ++ [.string xs, .int .i64 x]))
    (hu0 : g0 ∈ D0.u) (hu1 : g1 ∈ D1.u) (hu2 : g2 ∈ D2.u) :
    SvAt w (((wx.setCell ⟨w.heap.size + 1, 0, none⟩ (.slice (some ⟨g0, 0, none⟩) (i + 1) k0)).setCell ⟨w.heap.size + 1, 1, none⟩ (.slice (some ⟨g1, 0, none⟩) (i + 1) k1)).setCell ⟨w.heap.size + 1, 2, none⟩ (.slice (some ⟨g2, 0, none⟩) (i + 1) k2)) st (i + 1)
      (.slice (some ⟨g0, 0, none⟩) (i + 1) k0) (.slice (some ⟨g1, 0, none⟩) (i + 1) k1) (.slice (some ⟨g2, 0, none⟩) (i + 1) k2) := by
  have ne : ∀ k, k < w.heap.size + 2 → ∀ c ∈ [(ChSpec.mk (w.heap.size + 2) 3 t0 r0 i (gvs (st.take i)) (.int .i64 (g : Nat)) [.int .i64 (g : Nat)], D0), (ChSpec.mk (w.heap.size + 2) 4 t1 r1 i (als (st.take i)) (.bool al) [.bool al], D1), (ChSpec.mk (w.heap.size + 2) 75 t2 r2 i (vls (st.take i)) (.agg #[.string xs, .int .i64 x]) [.string xs, .int .i64 x], D2)], c.1.row.ownBlock ≠ some k := by
    intro k hk c hc
    simp only [List.mem_cons, List.not_mem_nil, or_false] at hc
    rcases hc with rfl | rfl | rfl
    · exact fun e => by have := (hS.o0.lt k e).1; omega
    · exact fun e => by have := (hS.o1.lt k e).1; omega
    · exact fun e => by have := (hS.o2.lt k e).1; omega
  have hsz : w.heap.size < W.heap.size := blk_lt (hbW.trans hS.out)
  have hap := HC.apart
  simp only [List.pairwise_cons, List.mem_cons, List.not_mem_nil, or_false, forall_eq_or_imp, forall_eq] at hap
  have e0 : gvs (st.take (i + 1)) = gvs (st.take i) ++ [.int .i64 (g : Nat)] := take_next (fun s : Slt => Value.int .i64 (s.1 : Int)) hlt hg
  have e1 : als (st.take (i + 1)) = als (st.take i) ++ [.bool al] := take_next (fun s : Slt => Value.bool s.2.1) hlt hg
  have e2 : vls (st.take (i + 1)) = vls (st.take i) ++ [.string xs, .int .i64 x] := take_next2 hlt hg
  refine ⟨?_, ?_, ?_, ?_, ?_, ?_, ?_, ?_, ?_⟩
  · rw [setCell_block (setCell_block (setCell_block box _) _) _]; simp
  · rw [Below.heap_setCell _ _ _ _ (by dsimp only; omega), Below.heap_setCell _ _ _ _ (by dsimp only; omega), Below.heap_setCell _ _ _ _ (by dsimp only; omega), HC.block _ hsz (ne _ (by omega)), hbW]
    exact hS.out
  · rw [e0]; exact ownsRow_setCell_below (ownsRow_setCell_below (ownsRow_setCell_below own0 (by dsimp only; omega) _) (by dsimp only; omega) _) (by dsimp only; omega) _
  · rw [e1]; exact ownsRow_setCell_below (ownsRow_setCell_below (ownsRow_setCell_below own1 (by dsimp only; omega) _) (by dsimp only; omega) _) (by dsimp only; omega) _
  · rw [e2]; exact ownsRow_setCell_below (ownsRow_setCell_below (ownsRow_setCell_below own2 (by dsimp only; omega) _) (by dsimp only; omega) _) (by dsimp only; omega) _
  · intro k h1 h2
    simp only [Value.ownBlock, Option.some.injEq] at h1 h2
    exact hap.1.1 g0 hu0 (by rw [h1, ← h2]; exact hu1)
  · intro k h1 h2
    simp only [Value.ownBlock, Option.some.injEq] at h1 h2
    exact hap.1.2 g0 hu0 (by rw [h1, ← h2]; exact hu2)
  · intro k h1 h2
    simp only [Value.ownBlock, Option.some.injEq] at h1 h2
    exact hap.2.1 g1 hu1 (by rw [h1, ← h2]; exact hu2)
  · have hk : Below w.heap.size W wx := ⟨HC.os, HC.tape, HC.output, HC.size, fun k hk => HC.block k (by omega) (ne k (by omega))⟩
    exact (((hW.trans hk).setCell (p := ⟨w.heap.size + 1, 0, none⟩) (by dsimp only; omega) _).setCell (p := ⟨w.heap.size + 1, 1, none⟩) (by dsimp only; omega) _).setCell (p := ⟨w.heap.size + 1, 2, none⟩) (by dsimp only; omega) _

set_option maxRecDepth 100000 in
set_option maxHeartbeats 6400000 in
theorem save_ok {B p q : Nat} {st : List Slt} (w : World) (h : Tg 124 129 w B p q st) (hval : ∀ j, j < st.length → ∃ (xs : ByteArray) (x : Int), (st.getD j (0, false, undef)).2.2 = .agg #[.string xs, .int .i64 x]) :
    Calls Tryd.prog 43 #[.pointer (some ⟨p, 0, none⟩)] w fun e w' => ∃ x, e = .returned x ∧ RT w' x st ∧ Below w.heap.size w w' := by
  obtain ⟨i0, hi0, hz0, hs0, hb0⟩ := info_parts info_int
  obtain ⟨i1, hi1, hz1, hs1, hb1⟩ := info_parts info_bool
  obtain ⟨i2, hi2, hz2, hs2, hb2⟩ := info_parts info_val
  have HT := Lib.hid h
  have n2 := h.n2
  have n1 := h.n1
  have hp := Tb.c0 h
  have hpl := World.block_lt_of_cell? _ _ hp
  have hql := blk_lt (Tb.slots h)
  dsimp only at hpl
  clear h hp
  obtain ⟨n, hn⟩ : ∃ n, st.length = n := ⟨_, rfl⟩
  have c0 := Tb.c0 HT.out
  rw [hn] at c0 n1 n2
  have HN := Lib.hid hn
  clear hn
  go_enter Tryd.func43, Tryd.ntmps43
  go_wp2_with fail
  refine (made_ok _ ((Tb.below HT.out (((Below.refl _ w).alloc (Nat.le_refl _) _).alloc (by simp) _)))).mono ?_
  rintro e w1 ⟨rfl, rfl⟩
  go_wp2
  generalize hW0 : (w.alloc (.cells #[.slice none 0 0, .slice none 0 0, .slice none 0 0] 83)).alloc (.cells #[.slice none 0 0, .slice none 0 0, .slice none 0 0] 83) = W0
  have HW0 := Lib.hid hW0
  clear hW0
  go_loopw [15] (fun x wr => ∃ (i : Nat) (r0 r1 r2 : Value), i ≤ n ∧ x = .int .i64 i ∧ Hid (SvAt w wr st i r0 r1 r2)) (fun x _ => n - (intOf x).toNat)
  case atStart =>
    refine ⟨0, .slice none 0 0, .slice none 0 0, .slice none 0 0, Nat.zero_le _, rfl, Lib.hid ?_⟩
    rw [← HW0.out]
    refine ⟨?_, ?_, World.ownsRow_nil _ _ _ _, World.ownsRow_nil _ _ _ _, World.ownsRow_nil _ _ _ _, fun g h => by simp [Value.ownBlock] at h, fun g h => by simp [Value.ownBlock] at h, fun g h => by simp [Value.ownBlock] at h, ((Below.refl _ w).alloc (Nat.le_refl _) _).alloc (by simp) _⟩
    · have := heap_alloc_new (w.alloc (.cells #[.slice none 0 0, .slice none 0 0, .slice none 0 0] 83)) (.cells #[.slice none 0 0, .slice none 0 0, .slice none 0 0] 83)
      rwa [World.size_alloc] at this
    · exact (Below.heap_alloc _ _ _ (by simp)).trans (heap_alloc_new w _)
  case round =>
    obtain ⟨i, r0, r1, r2, hi, rfl, HSv⟩ := hrel
    by_cases hlt2 : i < n
    · have hlb : decide (i < n) = true := by simpa using hlt2
      have hli : (i : Int) < (n : Int) := by omega
      have hl0 : (0 : Int) ≤ (i : Int) := by omega
      have hTr := Tg.below HT.out HSv.out.k
      obtain ⟨xs, x, hx⟩ := hval i (by have := HN.out; omega)
      obtain ⟨⟨g, al, v⟩, hS⟩ : ∃ S, st.getD i (0, false, undef) = S := ⟨_, rfl⟩
      have s0 := Tb.s0 hTr (i := i) (by have := HN.out; omega)
      have s1 := Tb.s1 hTr (i := i) (by have := HN.out; omega)
      have s2 := Tb.s2 hTr (i := i) (by have := HN.out; omega)
      have s3 := Tb.s3 hTr (i := i) (by have := HN.out; omega)
      rw [hx] at s2 s3
      change _ = some (Value.string xs) at s2
      change _ = some (Value.int .i64 x) at s3
      rw [hS] at s0 s1 hx
      dsimp only at s0 s1 hx
      subst hx
      have hgt := Lib.hid hS
      clear hTr hS
      go_wp2
      refine wp_region_any (by kernel_rfl) ?_
      change wpAny _ _ _ _ _ _ _ (World.drew _)
      refine wpAny_takeD 0 19 (.pointer (some ⟨w.heap.size + 1, 0, none⟩)) rfl rfl (by kernel_rfl) (by kernel_rfl) (by kernel_rfl) (fun _ _ _ h => h) (by rfl) (fun w => by go_simp) ?_
      try simp only [Act.put, List.setIfInBounds_toArray, List.set_cons_zero, List.set_cons_succ]
      refine wpAny_takeD 2 21 (.pointer (some ⟨wr.heap.size, 0, none⟩)) rfl rfl (by kernel_rfl) (by kernel_rfl) (by kernel_rfl) (fun _ _ _ h => h) (by rfl) (fun w => by go_simp) ?_
      try simp only [Act.put, List.setIfInBounds_toArray, List.set_cons_zero, List.set_cons_succ]
      refine wpAny_takeD 6 25 (.pointer (some ⟨w.heap.size + 1, 1, none⟩)) rfl rfl (by kernel_rfl) (by kernel_rfl) (by kernel_rfl) (fun _ _ _ h => h) (by rfl) (fun w => by go_simp) ?_
      try simp only [Act.put, List.setIfInBounds_toArray, List.set_cons_zero, List.set_cons_succ]
      refine wpAny_takeD 8 27 (.pointer (some ⟨wr.heap.size, 1, none⟩)) rfl rfl (by kernel_rfl) (by kernel_rfl) (by kernel_rfl) (fun _ _ _ h => h) (by rfl) (fun w => by go_simp) ?_
      try simp only [Act.put, List.setIfInBounds_toArray, List.set_cons_zero, List.set_cons_succ]
      refine wpAny_takeD 12 31 (.pointer (some ⟨w.heap.size + 1, 2, none⟩)) rfl rfl (by kernel_rfl) (by kernel_rfl) (by kernel_rfl) (fun _ _ _ h => h) (by rfl) (fun w => by go_simp) ?_
      try simp only [Act.put, List.setIfInBounds_toArray, List.set_cons_zero, List.set_cons_succ]
      refine wpAny_takeD 14 33 (.pointer (some ⟨wr.heap.size, 2, none⟩)) rfl rfl (by kernel_rfl) (by kernel_rfl) (by kernel_rfl) (fun _ _ _ h => h) (by rfl) (fun w => by go_simp) ?_
      try simp only [Act.put, List.setIfInBounds_toArray, List.set_cons_zero, List.set_cons_succ]
      generalize hWd : World.drew _ = W
      have HWD := Lib.hid hWd
      clear hWd
      have HBW : Hid (W.heap[w.heap.size]? = wr.heap[w.heap.size]?) := Lib.hid (by rw [← HWD.out]; exact Below.heap_alloc wr _ _ (by have := blk_lt HSv.out.box; omega))
      have HE0 : Hid (W.heap[w.heap.size + 1]? = some (.cells #[r0, r1, r2] 83 (0, 0))) := Lib.hid (by rw [← HWD.out]; exact (Below.heap_alloc wr _ _ (by have := HSv.out.k.size; have := blk_lt HSv.out.box; omega)).trans HSv.out.box)
      have HE1 : Hid (W.heap[wr.heap.size]? = some (.cells #[.int .i64 (g : Nat), .bool al, .string xs, .int .i64 x] 129 (0, 0))) := Lib.hid (by rw [← HWD.out]; exact heap_alloc_new wr _)
      have HB1 : Hid (wr.heap.size < W.heap.size ∧ w.heap.size + 2 ≤ wr.heap.size) := Lib.hid ⟨blk_lt HE1.out, by have := blk_lt HSv.out.box; omega⟩
      have NE : Hid ((∀ k, k < w.heap.size + 2 → r0.ownBlock ≠ some k) ∧ (∀ k, k < w.heap.size + 2 → r1.ownBlock ≠ some k) ∧ (∀ k, k < w.heap.size + 2 → r2.ownBlock ≠ some k)) := Lib.hid ⟨fun k hk e => by have := (HSv.out.o0.lt k e).1; omega, fun k hk e => by have := (HSv.out.o1.lt k e).1; omega, fun k hk e => by have := (HSv.out.o2.lt k e).1; omega⟩
      have NF : Hid (r0.ownBlock ≠ some wr.heap.size ∧ r1.ownBlock ≠ some wr.heap.size ∧ r2.ownBlock ≠ some wr.heap.size) := Lib.hid ⟨fun e => by have := (HSv.out.o0.lt _ e).2; omega, fun e => by have := (HSv.out.o1.lt _ e).2; omega, fun e => by have := (HSv.out.o2.lt _ e).2; omega⟩
      have HO0 : Hid (W.ownsRow (w.heap.size + 2) 3 1 r0 i (gvs (st.take i))) := Lib.hid (by rw [← HWD.out]; exact own_same (HSv.out.o0.alloc _) fun g _ => rfl)
      have HO1 : Hid (W.ownsRow (w.heap.size + 2) 4 1 r1 i (als (st.take i))) := Lib.hid (by rw [← HWD.out]; exact own_same (HSv.out.o1.alloc _) fun g _ => rfl)
      have HO2 : Hid (W.ownsRow (w.heap.size + 2) 75 2 r2 i (vls (st.take i))) := Lib.hid (by rw [← HWD.out]; exact own_same (HSv.out.o2.alloc _) fun g _ => rfl)
      have HKW : Hid (Below w.heap.size w W) := Lib.hid (by rw [← HWD.out]; exact (HSv.out.k.alloc HSv.out.k.size _).drew)
      refine wpAny_named (fun A0 hA0 => ?_)
      have HA0 := Lib.hid hA0
      clear hA0
      have HCELL : Hid (∀ (d0 d1 d2 : ChDyn) (wx : World), Chains W [((ChSpec.mk (w.heap.size + 2) 3 3 r0 i (gvs (st.take i)) (.int .i64 (g : Nat)) [.int .i64 (g : Nat)]), d0), ((ChSpec.mk (w.heap.size + 2) 4 4 r1 i (als (st.take i)) (.bool al) [.bool al]), d1), ((ChSpec.mk (w.heap.size + 2) 75 75 r2 i (vls (st.take i)) (.agg #[.string xs, .int .i64 x]) [.string xs, .int .i64 x]), d2)] wx → wx.heap[w.heap.size + 1]? = some (.cells #[r0, r1, r2] 83 (0, 0)) ∧ wx.heap[wr.heap.size]? = some (.cells #[.int .i64 (g : Nat), .bool al, .string xs, .int .i64 x] 129 (0, 0))) := Lib.hid (by
        intro d0 d1 d2 wx HC
        have hrow : ∀ k, k < W.heap.size → (((ChSpec.mk (w.heap.size + 2) 3 3 r0 i (gvs (st.take i)) (.int .i64 (g : Nat)) [.int .i64 (g : Nat)])).row.ownBlock ≠ some k ∧ ((ChSpec.mk (w.heap.size + 2) 4 4 r1 i (als (st.take i)) (.bool al) [.bool al])).row.ownBlock ≠ some k ∧ ((ChSpec.mk (w.heap.size + 2) 75 75 r2 i (vls (st.take i)) (.agg #[.string xs, .int .i64 x]) [.string xs, .int .i64 x])).row.ownBlock ≠ some k) → wx.heap[k]? = W.heap[k]? := fun k hk hn => HC.block k hk (by
          intro c hc
          simp only [List.mem_cons, List.not_mem_nil, or_false] at hc
          rcases hc with rfl | rfl | rfl
          · exact hn.1
          · exact hn.2.1
          · exact hn.2.2
        )
        refine ⟨(hrow _ (by have := HB1.out; omega) ⟨NE.out.1 _ (by omega), NE.out.2.1 _ (by omega), NE.out.2.2 _ (by omega)⟩).trans HE0.out, (hrow _ (by have := HB1.out; omega) ⟨NF.out.1, NF.out.2.1, NF.out.2.2⟩).trans HE1.out⟩
        )
      refine wpAny_inv (fun l a wx => ∃ (d0 d1 d2 : ChDyn) (s0 : Bool) (vs0 : Value), l = #[true, d0.r, true, d0.y, d0.b, d0.a, true, d1.r, true, d1.y, d1.b, d1.a, true, d2.r, true, d2.y, d2.b, d2.a, s0, false, false, false, false, false] ∧ a = (((((((((((((A0.put (some 20) d0.vr).put (some 22) d0.vx).put (some 23) d0.vb).put (some 24) d0.va).put (some 26) d1.vr).put (some 28) d1.vx).put (some 29) d1.vb).put (some 30) d1.va).put (some 32) d2.vr).put (some 34) d2.vx).put (some 35) d2.vb).put (some 36) d2.va).put (some 37) vs0) ∧ (s0 = true → vs0 = (.pointer (some ⟨w.heap.size + 1, 0, none⟩))) ∧ ((d1.a = true → d0.a = true) ∧ (d2.a = true → d1.a = true)) ∧ Chains W [((ChSpec.mk (w.heap.size + 2) 3 3 r0 i (gvs (st.take i)) (.int .i64 (g : Nat)) [.int .i64 (g : Nat)]), d0), ((ChSpec.mk (w.heap.size + 2) 4 4 r1 i (als (st.take i)) (.bool al) [.bool al]), d1), ((ChSpec.mk (w.heap.size + 2) 75 75 r2 i (vls (st.take i)) (.agg #[.string xs, .int .i64 x]) [.string xs, .int .i64 x]), d2)] wx) (by kernel_rfl) (by rintro l a wx ⟨_, _, _, _, _, rfl, _, _⟩; rfl) ?step _ _ _ _ (by kernel_rfl) ?start
      case start =>
        refine ⟨ChDyn.new (ChSpec.mk (w.heap.size + 2) 3 3 r0 i (gvs (st.take i)) (.int .i64 (g : Nat)) [.int .i64 (g : Nat)]) (A0.tmps[20]?.getD undef) (A0.tmps[22]?.getD undef) (A0.tmps[23]?.getD undef) (A0.tmps[24]?.getD undef), ChDyn.new (ChSpec.mk (w.heap.size + 2) 4 4 r1 i (als (st.take i)) (.bool al) [.bool al]) (A0.tmps[26]?.getD undef) (A0.tmps[28]?.getD undef) (A0.tmps[29]?.getD undef) (A0.tmps[30]?.getD undef), ChDyn.new (ChSpec.mk (w.heap.size + 2) 75 75 r2 i (vls (st.take i)) (.agg #[.string xs, .int .i64 x]) [.string xs, .int .i64 x]) (A0.tmps[32]?.getD undef) (A0.tmps[34]?.getD undef) (A0.tmps[35]?.getD undef) (A0.tmps[36]?.getD undef), false, (A0.tmps[37]?.getD undef), rfl, ?_, (fun h => by cases h), ⟨(fun h => by cases h), (fun h => by cases h)⟩, ?_⟩
        · simp only [ChDyn.new, put_self]
        · exact (((Chains.nil W).add (ChSpec.mk (w.heap.size + 2) 75 75 r2 i (vls (st.take i)) (.agg #[.string xs, .int .i64 x]) [.string xs, .int .i64 x]) _ _ _ _ HO2.out (fun gk hg c hc => by cases hc)).add (ChSpec.mk (w.heap.size + 2) 4 4 r1 i (als (st.take i)) (.bool al) [.bool al]) _ _ _ _ HO1.out (fun gk hg c hc => by simp only [List.mem_cons, List.not_mem_nil, or_false] at hc; subst hc; exact fun hm => HSv.out.n12 gk hg (by simpa [ChDyn.new] using hm))).add (ChSpec.mk (w.heap.size + 2) 3 3 r0 i (gvs (st.take i)) (.int .i64 (g : Nat)) [.int .i64 (g : Nat)]) _ _ _ _ HO0.out (fun gk hg c hc => by simp only [List.mem_cons, List.not_mem_nil, or_false] at hc; rcases hc with rfl | rfl; exact fun hm => HSv.out.n01 gk hg (by simpa [ChDyn.new] using hm); exact fun hm => HSv.out.n02 gk hg (by simpa [ChDyn.new] using hm))
      case step =>
        rintro l a wx ⟨⟨cr0, cy0, cb0, ca0, cvr0, cvx0, cvb0, cva0, cu0⟩, ⟨cr1, cy1, cb1, ca1, cvr1, cvx1, cvb1, cva1, cu1⟩, ⟨cr2, cy2, cb2, ca2, cvr2, cvx2, cvb2, cva2, cu2⟩, cs0, cvs0, rfl, rfl, HS0, HACH, HC⟩
        have hA0 := HA0.out
        subst hA0
        clear HA0
        have HE := HCELL.out _ _ _ _ HC
        clear HCELL
        have q0 : wx.cell? ⟨w.heap.size + 1, 0, none⟩ = some r0 := by rw [cell_of_block HE.1]; rfl
        have q1 : wx.cell? ⟨w.heap.size + 1, 1, none⟩ = some r1 := by rw [cell_of_block HE.1]; rfl
        have q2 : wx.cell? ⟨w.heap.size + 1, 2, none⟩ = some r2 := by rw [cell_of_block HE.1]; rfl
        have p0 : wx.cell? ⟨wr.heap.size, 0, none⟩ = some (.int .i64 (g : Nat)) := by rw [cell_of_block HE.2]; rfl
        have p1 : wx.cell? ⟨wr.heap.size, 1, none⟩ = some (.bool al) := by rw [cell_of_block HE.2]; rfl
        have p2 : wx.cell? ⟨wr.heap.size, 2, none⟩ = some (.string xs) := by rw [cell_of_block HE.2]; rfl
        have p3 : wx.cell? ⟨wr.heap.size, 3, none⟩ = some (.int .i64 x) := by rw [cell_of_block HE.2]; rfl
        have hsz := HC.size
        by_cases hdone : ca0 = true ∧ ca1 = true ∧ ca2 = true
        · left
          obtain ⟨rfl, rfl, rfl⟩ := hdone
          obtain ⟨z1, z2, z3, g0, cap0, z4, hu0, own0⟩ := (Chains.at0 HC).done rfl
          dsimp only at z1 z2 z3 z4
          subst z1 z2 z3 z4
          obtain ⟨z1, z2, z3, g1, cap1, z4, hu1, own1⟩ := (Chains.at1 HC).done rfl
          dsimp only at z1 z2 z3 z4
          subst z1 z2 z3 z4
          obtain ⟨z1, z2, z3, g2, cap2, z4, hu2, own2⟩ := (Chains.at2 HC).done rfl
          dsimp only at z1 z2 z3 z4
          subst z1 z2 z3 z4
          cases cs0 with
          | false =>
            refine wpAny_fuel 6 (by kernel_rfl) ?_
            simp only [Act.put, List.setIfInBounds_toArray, List.set_cons_zero, List.set_cons_succ]
            have fz : ∀ j, wx.frozen? ⟨w.heap.size + 1, j, none⟩ = false := fun j => unfrozen_of_block HE.1 j
            have HCC := Lib.hid HC
            clear HC
            refine wpAny_takeD 18 37 (.pointer (some ⟨w.heap.size + 1, 0, none⟩)) rfl rfl (by kernel_rfl) (by kernel_rfl) (by kernel_rfl) (fun _ _ _ h => h) (by rfl) (fun w => by go_simp) ?_
            simp only [Act.put, List.setIfInBounds_toArray, List.set_cons_zero, List.set_cons_succ]
            refine wpAny_ready (rs := [19]) (by kernel_rfl) (by simp) (AllReady.cons rfl (fun K hK => ?_) AllReady.nil)
            go_simp
            refine hK _ _ ?_
            clear hK K
            refine wpAny_takeD 20 38 (.pointer (some ⟨w.heap.size + 1, 1, none⟩)) rfl rfl (by kernel_rfl) (by kernel_rfl) (by kernel_rfl) (fun _ _ _ h => h) (by rfl) (fun w => by go_simp) ?_
            simp only [Act.put, List.setIfInBounds_toArray, List.set_cons_zero, List.set_cons_succ]
            refine wpAny_ready (rs := [21]) (by kernel_rfl) (by simp) (AllReady.cons rfl (fun K hK => ?_) AllReady.nil)
            go_simp
            refine hK _ _ ?_
            clear hK K
            refine wpAny_takeD 22 39 (.pointer (some ⟨w.heap.size + 1, 2, none⟩)) rfl rfl (by kernel_rfl) (by kernel_rfl) (by kernel_rfl) (fun _ _ _ h => h) (by rfl) (fun w => by go_simp) ?_
            simp only [Act.put, List.setIfInBounds_toArray, List.set_cons_zero, List.set_cons_succ]
            refine wpAny_ready (rs := [23]) (by kernel_rfl) (by simp) (AllReady.cons rfl (fun K hK => ?_) AllReady.nil)
            go_simp
            refine hK _ _ ?_
            clear hK K
            refine wpAny_done (by kernel_rfl) ?_ _
            go_wp2
            refine ⟨⟨i + 1, _, _, _, by omega, by simp, Lib.hid (SvAt.next HSv.out HKW.out HCC.out HBW.out HE.1 (by have := HN.out; omega) hgt.out own0 own1 own2 hu0 hu1 hu2)⟩, by simp [intOf]; omega⟩
          | true =>
            obtain rfl := HS0 rfl
            refine wpAny_fuel 5 (by kernel_rfl) ?_
            simp only [Act.put, List.setIfInBounds_toArray, List.set_cons_zero, List.set_cons_succ]
            have fz : ∀ j, wx.frozen? ⟨w.heap.size + 1, j, none⟩ = false := fun j => unfrozen_of_block HE.1 j
            have HCC := Lib.hid HC
            clear HC
            refine wpAny_ready (rs := [19]) (by kernel_rfl) (by simp) (AllReady.cons rfl (fun K hK => ?_) AllReady.nil)
            go_simp
            refine hK _ _ ?_
            clear hK K
            refine wpAny_takeD 20 38 (.pointer (some ⟨w.heap.size + 1, 1, none⟩)) rfl rfl (by kernel_rfl) (by kernel_rfl) (by kernel_rfl) (fun _ _ _ h => h) (by rfl) (fun w => by go_simp) ?_
            simp only [Act.put, List.setIfInBounds_toArray, List.set_cons_zero, List.set_cons_succ]
            refine wpAny_ready (rs := [21]) (by kernel_rfl) (by simp) (AllReady.cons rfl (fun K hK => ?_) AllReady.nil)
            go_simp
            refine hK _ _ ?_
            clear hK K
            refine wpAny_takeD 22 39 (.pointer (some ⟨w.heap.size + 1, 2, none⟩)) rfl rfl (by kernel_rfl) (by kernel_rfl) (by kernel_rfl) (fun _ _ _ h => h) (by rfl) (fun w => by go_simp) ?_
            simp only [Act.put, List.setIfInBounds_toArray, List.set_cons_zero, List.set_cons_succ]
            refine wpAny_ready (rs := [23]) (by kernel_rfl) (by simp) (AllReady.cons rfl (fun K hK => ?_) AllReady.nil)
            go_simp
            refine hK _ _ ?_
            clear hK K
            refine wpAny_done (by kernel_rfl) ?_ _
            go_wp2
            refine ⟨⟨i + 1, _, _, _, by omega, by simp, Lib.hid (SvAt.next HSv.out HKW.out HCC.out HBW.out HE.1 (by have := HN.out; omega) hgt.out own0 own1 own2 hu0 hu1 hu2)⟩, by simp [intOf]; omega⟩
        · right
          refine ⟨openOps_pos (i := 23) (by decide) rfl, fun i hi => ?_⟩
          obtain ⟨ho, hlt⟩ := ready_open hi
          have hlt2 : i < 24 := hlt
          rcases (by omega : i = 0 ∨ i = 1 ∨ i = 2 ∨ i = 3 ∨ i = 4 ∨ i = 5 ∨ i = 6 ∨ i = 7 ∨ i = 8 ∨ i = 9 ∨ i = 10 ∨ i = 11 ∨ i = 12 ∨ i = 13 ∨ i = 14 ∨ i = 15 ∨ i = 16 ∨ i = 17 ∨ i = 18 ∨ i = 19 ∨ i = 20 ∨ i = 21 ∨ i = 22 ∨ i = 23) with rfl | rfl | rfl | rfl | rfl | rfl | rfl | rfl | rfl | rfl | rfl | rfl | rfl | rfl | rfl | rfl | rfl | rfl | rfl | rfl | rfl | rfl | rfl | rfl
          · exact absurd (show true = false from ho) (by decide)
          · refine wpOp_step rfl (fun K hK => ?_)
            simp only [Act.put, List.setIfInBounds_toArray, List.set_cons_zero, List.set_cons_succ]
            go_simp
            refine hK _ _ ⟨⟨true, cy0, cb0, ca0, ((ChSpec.mk (w.heap.size + 2) 3 3 r0 i (gvs (st.take i)) (.int .i64 (g : Nat)) [.int .i64 (g : Nat)])).row, cvx0, cvb0, cva0, cu0⟩, ⟨cr1, cy1, cb1, ca1, cvr1, cvx1, cvb1, cva1, cu1⟩, ⟨cr2, cy2, cb2, ca2, cvr2, cvx2, cvb2, cva2, cu2⟩, cs0, cvs0, ?_, ?_, HS0, HACH, ?_⟩
            · rfl
            · simp only [Act.put, List.setIfInBounds_toArray, List.set_cons_zero, List.set_cons_succ]
            · exact Chains.r0 HC
          · exact absurd (show true = false from ho) (by decide)
          · refine wpOp_step rfl (fun K hK => ?_)
            simp only [Act.put, List.setIfInBounds_toArray, List.set_cons_zero, List.set_cons_succ]
            go_simp
            refine hK _ _ ⟨⟨cr0, true, cb0, ca0, cvr0, ((ChSpec.mk (w.heap.size + 2) 3 3 r0 i (gvs (st.take i)) (.int .i64 (g : Nat)) [.int .i64 (g : Nat)])).x, cvb0, cva0, cu0⟩, ⟨cr1, cy1, cb1, ca1, cvr1, cvx1, cvb1, cva1, cu1⟩, ⟨cr2, cy2, cb2, ca2, cvr2, cvx2, cvb2, cva2, cu2⟩, cs0, cvs0, ?_, ?_, HS0, HACH, ?_⟩
            · rfl
            · simp only [Act.put, List.setIfInBounds_toArray, List.set_cons_zero, List.set_cons_succ]
            · exact Chains.y0 HC
          · have hY : cy0 = true := needs_ready (j := 3) hi (by kernel_rfl)
            have hb0 : cb0 = false := ho
            have hx := (Chains.at0 HC).val hY
            have ha0 : ca0 = false := by
              cases hq : ca0 with
              | false => rfl
              | true => have := ((Chains.at0 HC).done hq).2.2.1; dsimp only at this; rw [hb0] at this; cases this
            dsimp only at hx
            subst hx
            refine wpOp_step rfl (fun K hK => ?_)
            simp only [Act.put, List.setIfInBounds_toArray, List.set_cons_zero, List.set_cons_succ]
            go_simp
            refine hK _ _ ⟨⟨cr0, cy0, true, ca0, cvr0, ((ChSpec.mk (w.heap.size + 2) 3 3 r0 i (gvs (st.take i)) (.int .i64 (g : Nat)) [.int .i64 (g : Nat)])).x, (.slice (some ⟨wx.heap.size, 0, none⟩) 1 1), cva0, (wx.heap.size :: cu0)⟩, ⟨cr1, cy1, cb1, ca1, cvr1, cvx1, cvb1, cva1, cu1⟩, ⟨cr2, cy2, cb2, ca2, cvr2, cvx2, cvb2, cva2, cu2⟩, cs0, cvs0, ?_, ?_, HS0, HACH, ?_⟩
            · rfl
            · simp only [Act.put, List.setIfInBounds_toArray, List.set_cons_zero, List.set_cons_succ]
            · exact Chains.b0 HC ha0 hY
          · have hR : cr0 = true := needs_ready (j := 1) hi (by kernel_rfl)
            have hbq : cb0 = true := needs_ready (j := 4) hi (by kernel_rfl)
            have ha0 : ca0 = false := ho
            have hat0 := Chains.at0 HC
            have hr := (hat0.row hR).symm
            obtain ⟨gl, hvb, hgu, hlit⟩ := hat0.lit hbq ha0
            dsimp only at hr hvb
            subst hr hvb
            refine wpOp_step rfl (fun K hK => ?_)
            simp only [Act.put, List.setIfInBounds_toArray, List.set_cons_zero, List.set_cons_succ]
            refine (if_pos (show Region.wanted _ _ = true from rfl)).mpr ?_
            refine wp_append_lies wx (.tmp 20) (.tmp 23) 32 (by rfl) (w.heap.size + 2) 3 i0 (.int .i64 0) 1 8 Tryd.underlying32 hi0 hz0 hs0 hb0 rfl (by decide) ((ChSpec.mk (w.heap.size + 2) 3 3 r0 i (gvs (st.take i)) (.int .i64 (g : Nat)) [.int .i64 (g : Nat)])).row i ((ChSpec.mk (w.heap.size + 2) 3 3 r0 i (gvs (st.take i)) (.int .i64 (g : Nat)) [.int .i64 (g : Nat)])).xs (by rfl) (hat0.own ha0) ⟨gl, 0, none⟩ 1 1 ((ChSpec.mk (w.heap.size + 2) 3 3 r0 i (gvs (st.take i)) (.int .i64 (g : Nat)) [.int .i64 (g : Nat)])).xc (by rfl) (by rfl) (World.news_of_block hlit) (by intro u hu; simp at hu; subst hu; rfl) (by decide) (by simp only [maxLen]; omega) (by omega) (by have := HB1.out; omega) wx.heap.size rfl ?_
            intro gn cap w1 hown hgrow hat hlt1
            refine hK _ _ ⟨⟨cr0, cy0, cb0, true, ((ChSpec.mk (w.heap.size + 2) 3 3 r0 i (gvs (st.take i)) (.int .i64 (g : Nat)) [.int .i64 (g : Nat)])).row, cvx0, (.slice (some ⟨gl, 0, none⟩) 1 1), (.slice (some ⟨gn, 0, none⟩) (i + 1) cap), (gn :: cu0)⟩, ⟨cr1, cy1, cb1, ca1, cvr1, cvx1, cvb1, cva1, cu1⟩, ⟨cr2, cy2, cb2, ca2, cvr2, cvx2, cvb2, cva2, cu2⟩, cs0, cvs0, ?_, ?_, HS0, ⟨(fun _ => rfl), HACH.2⟩, ?_⟩
            · rfl
            · simp only [List.getElem_toArray, List.getElem_cons_succ, List.getElem_cons_zero, Act.put, List.setIfInBounds_toArray, List.set_cons_zero, List.set_cons_succ]
            · exact Chains.a0 HC hR hbq hown hgrow hat hlt1
          · exact absurd (show true = false from ho) (by decide)
          · refine wpOp_step rfl (fun K hK => ?_)
            simp only [Act.put, List.setIfInBounds_toArray, List.set_cons_zero, List.set_cons_succ]
            go_simp
            refine hK _ _ ⟨⟨cr0, cy0, cb0, ca0, cvr0, cvx0, cvb0, cva0, cu0⟩, ⟨true, cy1, cb1, ca1, ((ChSpec.mk (w.heap.size + 2) 4 4 r1 i (als (st.take i)) (.bool al) [.bool al])).row, cvx1, cvb1, cva1, cu1⟩, ⟨cr2, cy2, cb2, ca2, cvr2, cvx2, cvb2, cva2, cu2⟩, cs0, cvs0, ?_, ?_, HS0, HACH, ?_⟩
            · rfl
            · simp only [Act.put, List.setIfInBounds_toArray, List.set_cons_zero, List.set_cons_succ]
            · exact Chains.r1 HC
          · exact absurd (show true = false from ho) (by decide)
          · refine wpOp_step rfl (fun K hK => ?_)
            simp only [Act.put, List.setIfInBounds_toArray, List.set_cons_zero, List.set_cons_succ]
            go_simp
            refine hK _ _ ⟨⟨cr0, cy0, cb0, ca0, cvr0, cvx0, cvb0, cva0, cu0⟩, ⟨cr1, true, cb1, ca1, cvr1, ((ChSpec.mk (w.heap.size + 2) 4 4 r1 i (als (st.take i)) (.bool al) [.bool al])).x, cvb1, cva1, cu1⟩, ⟨cr2, cy2, cb2, ca2, cvr2, cvx2, cvb2, cva2, cu2⟩, cs0, cvs0, ?_, ?_, HS0, HACH, ?_⟩
            · rfl
            · simp only [Act.put, List.setIfInBounds_toArray, List.set_cons_zero, List.set_cons_succ]
            · exact Chains.y1 HC
          · have hY : cy1 = true := needs_ready (j := 9) hi (by kernel_rfl)
            have hb0 : cb1 = false := ho
            have hx := (Chains.at1 HC).val hY
            have ha0 : ca1 = false := by
              cases hq : ca1 with
              | false => rfl
              | true => have := ((Chains.at1 HC).done hq).2.2.1; dsimp only at this; rw [hb0] at this; cases this
            dsimp only at hx
            subst hx
            refine wpOp_step rfl (fun K hK => ?_)
            simp only [Act.put, List.setIfInBounds_toArray, List.set_cons_zero, List.set_cons_succ]
            go_simp
            refine hK _ _ ⟨⟨cr0, cy0, cb0, ca0, cvr0, cvx0, cvb0, cva0, cu0⟩, ⟨cr1, cy1, true, ca1, cvr1, ((ChSpec.mk (w.heap.size + 2) 4 4 r1 i (als (st.take i)) (.bool al) [.bool al])).x, (.slice (some ⟨wx.heap.size, 0, none⟩) 1 1), cva1, (wx.heap.size :: cu1)⟩, ⟨cr2, cy2, cb2, ca2, cvr2, cvx2, cvb2, cva2, cu2⟩, cs0, cvs0, ?_, ?_, HS0, HACH, ?_⟩
            · rfl
            · simp only [Act.put, List.setIfInBounds_toArray, List.set_cons_zero, List.set_cons_succ]
            · exact Chains.b1 HC ha0 hY
          · have hR : cr1 = true := needs_ready (j := 7) hi (by kernel_rfl)
            have hbq : cb1 = true := needs_ready (j := 10) hi (by kernel_rfl)
            have ha0 : ca1 = false := ho
            have hat0 := Chains.at1 HC
            have hr := (hat0.row hR).symm
            obtain ⟨gl, hvb, hgu, hlit⟩ := hat0.lit hbq ha0
            dsimp only at hr hvb
            subst hr hvb
            refine wpOp_step rfl (fun K hK => ?_)
            simp only [Act.put, List.setIfInBounds_toArray, List.set_cons_zero, List.set_cons_succ]
            refine (if_pos (show Region.wanted _ _ = true from rfl)).mpr ?_
            refine wp_append_lies wx (.tmp 26) (.tmp 29) 33 (by rfl) (w.heap.size + 2) 4 i1 (.bool false) 1 1 Tryd.underlying33 hi1 hz1 hs1 hb1 rfl (by decide) ((ChSpec.mk (w.heap.size + 2) 4 4 r1 i (als (st.take i)) (.bool al) [.bool al])).row i ((ChSpec.mk (w.heap.size + 2) 4 4 r1 i (als (st.take i)) (.bool al) [.bool al])).xs (by rfl) (hat0.own ha0) ⟨gl, 0, none⟩ 1 1 ((ChSpec.mk (w.heap.size + 2) 4 4 r1 i (als (st.take i)) (.bool al) [.bool al])).xc (by rfl) (by rfl) (World.news_of_block hlit) (by intro u hu; simp at hu; subst hu; rfl) (by decide) (by simp only [maxLen]; omega) (by omega) (by have := HB1.out; omega) wx.heap.size rfl ?_
            intro gn cap w1 hown hgrow hat hlt1
            have hprev : ca0 = true := needs_ready (j := 5) hi (by kernel_rfl)
            refine hK _ _ ⟨⟨cr0, cy0, cb0, ca0, cvr0, cvx0, cvb0, cva0, cu0⟩, ⟨cr1, cy1, cb1, true, ((ChSpec.mk (w.heap.size + 2) 4 4 r1 i (als (st.take i)) (.bool al) [.bool al])).row, cvx1, (.slice (some ⟨gl, 0, none⟩) 1 1), (.slice (some ⟨gn, 0, none⟩) (i + 1) cap), (gn :: cu1)⟩, ⟨cr2, cy2, cb2, ca2, cvr2, cvx2, cvb2, cva2, cu2⟩, cs0, cvs0, ?_, ?_, HS0, ⟨(fun _ => hprev), (fun _ => rfl)⟩, ?_⟩
            · rfl
            · simp only [List.getElem_toArray, List.getElem_cons_succ, List.getElem_cons_zero, Act.put, List.setIfInBounds_toArray, List.set_cons_zero, List.set_cons_succ]
            · exact Chains.a1 HC hR hbq hown hgrow hat hlt1
          · exact absurd (show true = false from ho) (by decide)
          · refine wpOp_step rfl (fun K hK => ?_)
            simp only [Act.put, List.setIfInBounds_toArray, List.set_cons_zero, List.set_cons_succ]
            go_simp
            refine hK _ _ ⟨⟨cr0, cy0, cb0, ca0, cvr0, cvx0, cvb0, cva0, cu0⟩, ⟨cr1, cy1, cb1, ca1, cvr1, cvx1, cvb1, cva1, cu1⟩, ⟨true, cy2, cb2, ca2, ((ChSpec.mk (w.heap.size + 2) 75 75 r2 i (vls (st.take i)) (.agg #[.string xs, .int .i64 x]) [.string xs, .int .i64 x])).row, cvx2, cvb2, cva2, cu2⟩, cs0, cvs0, ?_, ?_, HS0, HACH, ?_⟩
            · rfl
            · simp only [Act.put, List.setIfInBounds_toArray, List.set_cons_zero, List.set_cons_succ]
            · exact Chains.r2 HC
          · exact absurd (show true = false from ho) (by decide)
          · refine wpOp_step rfl (fun K hK => ?_)
            simp only [Act.put, List.setIfInBounds_toArray, List.set_cons_zero, List.set_cons_succ]
            go_simp
            refine hK _ _ ⟨⟨cr0, cy0, cb0, ca0, cvr0, cvx0, cvb0, cva0, cu0⟩, ⟨cr1, cy1, cb1, ca1, cvr1, cvx1, cvb1, cva1, cu1⟩, ⟨cr2, true, cb2, ca2, cvr2, ((ChSpec.mk (w.heap.size + 2) 75 75 r2 i (vls (st.take i)) (.agg #[.string xs, .int .i64 x]) [.string xs, .int .i64 x])).x, cvb2, cva2, cu2⟩, cs0, cvs0, ?_, ?_, HS0, HACH, ?_⟩
            · rfl
            · simp only [Act.put, List.setIfInBounds_toArray, List.set_cons_zero, List.set_cons_succ]
            · exact Chains.y2 HC
          · have hY : cy2 = true := needs_ready (j := 15) hi (by kernel_rfl)
            have hb0 : cb2 = false := ho
            have hx := (Chains.at2 HC).val hY
            have ha0 : ca2 = false := by
              cases hq : ca2 with
              | false => rfl
              | true => have := ((Chains.at2 HC).done hq).2.2.1; dsimp only at this; rw [hb0] at this; cases this
            dsimp only at hx
            subst hx
            refine wpOp_step rfl (fun K hK => ?_)
            simp only [Act.put, List.setIfInBounds_toArray, List.set_cons_zero, List.set_cons_succ]
            go_simp
            refine hK _ _ ⟨⟨cr0, cy0, cb0, ca0, cvr0, cvx0, cvb0, cva0, cu0⟩, ⟨cr1, cy1, cb1, ca1, cvr1, cvx1, cvb1, cva1, cu1⟩, ⟨cr2, cy2, true, ca2, cvr2, ((ChSpec.mk (w.heap.size + 2) 75 75 r2 i (vls (st.take i)) (.agg #[.string xs, .int .i64 x]) [.string xs, .int .i64 x])).x, (.slice (some ⟨wx.heap.size, 0, none⟩) 1 1), cva2, (wx.heap.size :: cu2)⟩, cs0, cvs0, ?_, ?_, HS0, HACH, ?_⟩
            · rfl
            · simp only [Act.put, List.setIfInBounds_toArray, List.set_cons_zero, List.set_cons_succ]
            · exact Chains.b2 HC ha0 hY
          · have hR : cr2 = true := needs_ready (j := 13) hi (by kernel_rfl)
            have hbq : cb2 = true := needs_ready (j := 16) hi (by kernel_rfl)
            have ha0 : ca2 = false := ho
            have hat0 := Chains.at2 HC
            have hr := (hat0.row hR).symm
            obtain ⟨gl, hvb, hgu, hlit⟩ := hat0.lit hbq ha0
            dsimp only at hr hvb
            subst hr hvb
            refine wpOp_step rfl (fun K hK => ?_)
            simp only [Act.put, List.setIfInBounds_toArray, List.set_cons_zero, List.set_cons_succ]
            refine (if_pos (show Region.wanted _ _ = true from rfl)).mpr ?_
            refine wp_append_lies wx (.tmp 32) (.tmp 35) 81 (by rfl) (w.heap.size + 2) 75 i2 (.agg #[.string ⟨#[]⟩, .int .i64 0]) 2 24 Tryd.underlying81 hi2 hz2 hs2 hb2 rfl (by decide) ((ChSpec.mk (w.heap.size + 2) 75 75 r2 i (vls (st.take i)) (.agg #[.string xs, .int .i64 x]) [.string xs, .int .i64 x])).row i ((ChSpec.mk (w.heap.size + 2) 75 75 r2 i (vls (st.take i)) (.agg #[.string xs, .int .i64 x]) [.string xs, .int .i64 x])).xs (by rfl) (hat0.own ha0) ⟨gl, 0, none⟩ 1 1 ((ChSpec.mk (w.heap.size + 2) 75 75 r2 i (vls (st.take i)) (.agg #[.string xs, .int .i64 x]) [.string xs, .int .i64 x])).xc (by rfl) (by rfl) (World.news_of_block hlit) (by intro u hu; simp at hu; rcases hu with rfl | rfl <;> rfl) (by decide) (by simp only [maxLen]; omega) (by omega) (by have := HB1.out; omega) wx.heap.size rfl ?_
            intro gn cap w1 hown hgrow hat hlt1
            have hprev : ca1 = true := needs_ready (j := 11) hi (by kernel_rfl)
            refine hK _ _ ⟨⟨cr0, cy0, cb0, ca0, cvr0, cvx0, cvb0, cva0, cu0⟩, ⟨cr1, cy1, cb1, ca1, cvr1, cvx1, cvb1, cva1, cu1⟩, ⟨cr2, cy2, cb2, true, ((ChSpec.mk (w.heap.size + 2) 75 75 r2 i (vls (st.take i)) (.agg #[.string xs, .int .i64 x]) [.string xs, .int .i64 x])).row, cvx2, (.slice (some ⟨gl, 0, none⟩) 1 1), (.slice (some ⟨gn, 0, none⟩) (i + 1) cap), (gn :: cu2)⟩, cs0, cvs0, ?_, ?_, HS0, ⟨HACH.1, (fun _ => hprev)⟩, ?_⟩
            · rfl
            · simp only [List.getElem_toArray, List.getElem_cons_succ, List.getElem_cons_zero, Act.put, List.setIfInBounds_toArray, List.set_cons_zero, List.set_cons_succ]
            · exact Chains.a2 HC hR hbq hown hgrow hat hlt1
          · refine wpOp_step rfl (fun K hK => ?_)
            simp only [Act.put, List.setIfInBounds_toArray, List.set_cons_zero, List.set_cons_succ]
            go_simp
            refine hK _ _ ⟨⟨cr0, cy0, cb0, ca0, cvr0, cvx0, cvb0, cva0, cu0⟩, ⟨cr1, cy1, cb1, ca1, cvr1, cvx1, cvb1, cva1, cu1⟩, ⟨cr2, cy2, cb2, ca2, cvr2, cvx2, cvb2, cva2, cu2⟩, true, (.pointer (some ⟨w.heap.size + 1, 0, none⟩)), ?_, ?_, (fun _ => rfl), HACH, HC⟩
            · rfl
            · simp only [Act.put, List.setIfInBounds_toArray, List.set_cons_zero, List.set_cons_succ]
          · have hA2 : ca2 = true := needs_ready (j := 17) hi (by kernel_rfl)
            have hA1 : ca1 = true := HACH.2 hA2
            have hA0 : ca0 = true := HACH.1 hA1
            exact absurd ⟨hA0, hA1, hA2⟩ hdone
          · exact absurd (show false = true from needs_ready (j := 19) hi (by kernel_rfl)) (by decide)
          · exact absurd (show false = true from needs_ready (j := 20) hi (by kernel_rfl)) (by decide)
          · exact absurd (show false = true from needs_ready (j := 21) hi (by kernel_rfl)) (by decide)
          · exact absurd (show false = true from needs_ready (j := 22) hi (by kernel_rfl)) (by decide)
    · have hlb : decide (i < n) = false := by simpa using hlt2
      obtain rfl : i = n := by omega
      have b0 := HSv.out.box
      have b1 := HSv.out.out
      have q0 : wr.cell? ⟨w.heap.size + 1, 0, none⟩ = some r0 := by rw [cell_of_block b0]; rfl
      have q1 : wr.cell? ⟨w.heap.size + 1, 1, none⟩ = some r1 := by rw [cell_of_block b0]; rfl
      have q2 : wr.cell? ⟨w.heap.size + 1, 2, none⟩ = some r2 := by rw [cell_of_block b0]; rfl
      have p0 : wr.cell? ⟨w.heap.size, 0, none⟩ = some (.slice none 0 0) := by rw [cell_of_block b1]; rfl
      have p1 : wr.cell? ⟨w.heap.size, 1, none⟩ = some (.slice none 0 0) := by rw [cell_of_block b1]; rfl
      have p2 : wr.cell? ⟨w.heap.size, 2, none⟩ = some (.slice none 0 0) := by rw [cell_of_block b1]; rfl
      have fz : ∀ j, wr.frozen? ⟨w.heap.size, j, none⟩ = false := fun j => unfrozen_of_block b1 j
      obtain ⟨a0, k0, rfl⟩ := own_slice HSv.out.o0
      obtain ⟨a1, k1, rfl⟩ := own_slice HSv.out.o1
      obtain ⟨a2, k2, rfl⟩ := own_slice2 HSv.out.o2
      clear b0 b1
      go_wp2
      refine bodyPost_ret (v := .agg #[.slice a0 i k0, .slice a1 i k1, .slice a2 i k2]) (by simp [results, Tryd.f43, go_sem, p0, p1, p2]) rfl ?_
      have hsz := World.block_lt_of_cell? _ _ p0
      obtain rfl := HN.out
      have tk : ∀ k, k = st.length → st.take k = st := fun k hk => by rw [hk]; exact List.take_length
      have e0 := HSv.out.o0
      have e1 := HSv.out.o1
      have e2 := HSv.out.o2
      have hk := HSv.out.k
      rw [tk _ rfl] at e0 e1 e2
      have hlt3 : ∀ j, j < 3 → (⟨w.heap.size, j, none⟩ : Addr).block < w.heap.size + 2 := fun j _ => by dsimp only; omega
      have f0 := ownsRow_setCell_below (ownsRow_setCell_below (ownsRow_setCell_below e0 (hlt3 0 (by decide)) (.slice a0 st.length k0)) (hlt3 1 (by decide)) (.slice a1 st.length k1)) (hlt3 2 (by decide)) (.slice a2 st.length k2)
      have f1 := ownsRow_setCell_below (ownsRow_setCell_below (ownsRow_setCell_below e1 (hlt3 0 (by decide)) (.slice a0 st.length k0)) (hlt3 1 (by decide)) (.slice a1 st.length k1)) (hlt3 2 (by decide)) (.slice a2 st.length k2)
      have f2 := ownsRow_setCell_below (ownsRow_setCell_below (ownsRow_setCell_below e2 (hlt3 0 (by decide)) (.slice a0 st.length k0)) (hlt3 1 (by decide)) (.slice a1 st.length k1)) (hlt3 2 (by decide)) (.slice a2 st.length k2)
      have hg := fun j (hj : j < st.length) => show (gvs st)[j]? = some (zI (gF st) j) by simp [gvs, gF, List.getElem?_map, List.getElem?_eq_getElem hj]
      have ha := fun j (hj : j < st.length) => show (als st)[j]? = some (zB (aF st) j) by simp [als, aF, List.getElem?_map, List.getElem?_eq_getElem hj]
      have hv := fun j (hj : j < st.length) => vls_at st j hj
      exact ⟨_, rfl, ⟨a0, k0, a1, k1, a2, k2, rfl, SlF.of_own f0 hg, SlF.of_own f1 ha, SlT.of_own f2 hv⟩, ((hk.setCell (p := ⟨w.heap.size, 0, none⟩) (Nat.le_refl _) _).setCell (p := ⟨w.heap.size, 1, none⟩) (Nat.le_refl _) _).setCell (p := ⟨w.heap.size, 2, none⟩) (Nat.le_refl _) _⟩
end Go.Proofs.YtpaecmpiokkdnaaDoor.Thing
