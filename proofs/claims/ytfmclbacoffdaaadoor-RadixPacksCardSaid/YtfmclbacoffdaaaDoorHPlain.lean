/- Handles: slots as lists; tables in memory; what a method leaves alone. -/
import Derived.Test.YtfmclbacoffdaaaDoorBitsJ
namespace Go.Proofs.YtfmclbacoffdaaaDoor
open Go.RowKit Go.Sort Go.Joins

/-- a slot: how many handles, alive, value -/
abbrev Slt := Nat × Bool × Value
def sc (s : Slt) : List Value := [.int .i64 (s.1 : Int), .bool s.2.1, s.2.2]
def slotCells : List Slt → List Value
  | [] => []
  | s :: l => sc s ++ slotCells l
theorem slotCells_length : ∀ st : List Slt, (slotCells st).length = 3 * st.length
  | [] => rfl
  | s :: l => by simp only [slotCells, List.length_append, slotCells_length l, sc, List.length_cons, List.length_nil]; omega
theorem slotCells_get : ∀ (st : List Slt) (i j : Nat) (_ : i < st.length) (_ : j < 3), (slotCells st)[i * 3 + j]? = (sc (st.getD i (0, false, undef)))[j]?
  | [], i, _, h, _ => by simp at h
  | s :: l, 0, j, _, hj => by
    simp only [slotCells, Nat.zero_mul, Nat.zero_add]
    rw [List.getElem?_append_left (by simp [sc]; omega)]; rfl
  | s :: l, i + 1, j, h, hj => by
    simp only [slotCells]
    rw [List.getElem?_append_right (by simp [sc]; omega), show (i + 1) * 3 + j - (sc s).length = i * 3 + j by simp [sc]; omega, slotCells_get l i j (by simpa using h) hj]
    rfl
theorem slotCells_set : ∀ (st : List Slt) (i : Nat) (_ : i < st.length) (s : Slt), slotCells (st.set i s) = (((slotCells st).set (i * 3) (.int .i64 (s.1 : Int))).set (i * 3 + 1) (.bool s.2.1)).set (i * 3 + 2) s.2.2
  | [], i, h, _ => by simp at h
  | t :: l, 0, _, s => by simp [slotCells, sc]
  | t :: l, i + 1, h, s => by
    simp only [List.set_cons_succ, slotCells]
    rw [slotCells_set l i (by simpa using h) s, show (i + 1) * 3 = (i * 3) + 3 by omega]
    simp [sc]
theorem set_get {α : Type} (l : List α) (i : Nat) (d : α) (_ : i < l.length) : l.set i (l.getD i d) = l := by
  apply List.ext_getElem?
  intro j
  rw [List.getElem?_set]
  by_cases h : i = j
  · subst h
    rw [if_pos rfl, if_pos (by assumption)]
    simp [*]
  · rw [if_neg h]

/-- can the slot give a handle? -/
def rdy (s : Slt) : Bool := !s.2.1 && decide (s.1 < 65535)
/-- a table at block p, its slots at block q; the bits r say which slots can give a handle -/
structure Tb (TBL SLOT : TypeId) (w : World) (B p q : Nat) (st : List Slt) (m : Nat) (r : Nat → Bool) : Prop where
  hp : B ≤ p
  hq : B ≤ q
  ne : p ≠ q
  n1 : 1 ≤ st.length
  n2 : st.length ≤ 1024
  tbl : ∃ ra rcap, w.heap[p]? = some (.cells #[.slice (some ⟨q, 0, none⟩) st.length st.length, .int .i64 (st.length : Int), .slice ra ((st.length + 63) / 64) rcap, .int .i64 (m : Int)] TBL (0, 0)) ∧
    w.ownsRow B 24 1 (.slice ra ((st.length + 63) / 64) rcap) ((st.length + 63) / 64) (u64s (pack r ((st.length + 63) / 64)))
  slots : w.heap[q]? = some (.cells (slotCells st).toArray SLOT (0, 0))
  rb : ∀ i, st.length ≤ i → r i = false

/-- all but the blocks p and q is as it was -/
structure Fr (p q : Nat) (w w' : World) : Prop where
  os : w'.os = w.os
  tape : w'.tape = w.tape
  output : w'.output = w.output
  size : w.heap.size ≤ w'.heap.size
  block : ∀ k, k < w.heap.size → k ≠ p → k ≠ q → w'.heap[k]? = w.heap[k]?
theorem Fr.refl (p q : Nat) (w : World) : Fr p q w w := ⟨rfl, rfl, rfl, Nat.le_refl _, fun _ _ _ _ => rfl⟩
theorem Fr.trans {p q : Nat} {a b c : World} (h : Fr p q a b) (k : Fr p q b c) : Fr p q a c :=
  ⟨k.os.trans h.os, k.tape.trans h.tape, k.output.trans h.output, Nat.le_trans h.size k.size, fun i hi h1 h2 => (k.block i (Nat.lt_of_lt_of_le hi h.size) h1 h2).trans (h.block i hi h1 h2)⟩
theorem Fr.of_below {p q : Nat} {w w' : World} (h : Below w.heap.size w w') : Fr p q w w' := ⟨h.os, h.tape, h.output, h.size, fun k hk _ _ => h.block k hk⟩
theorem Fr.setP {p q : Nat} (w : World) (j : Nat) (v : Value) : Fr p q w (w.setCell ⟨p, j, none⟩ v) :=
  ⟨rfl, rfl, rfl, by simp [World.setCell], fun k _ h1 _ => Below.heap_setCell _ _ _ _ h1⟩
theorem Fr.setQ {p q : Nat} (w : World) (j : Nat) (v : Value) : Fr p q w (w.setCell ⟨q, j, none⟩ v) :=
  ⟨rfl, rfl, rfl, by simp [World.setCell], fun k _ _ h2 => Below.heap_setCell _ _ _ _ h2⟩
theorem Fr.below {p q B : Nat} {a w w' : World} (h : Below B a w) (k : Fr p q w w') (hp : B ≤ p) (hq : B ≤ q) (hB : B ≤ w.heap.size) : Below B a w' :=
  h.trans ⟨k.os, k.tape, k.output, k.size, fun i hi => k.block i (by omega) (by omega) (by omega)⟩

theorem blk_lt {w : World} {k : Nat} {o : Obj} (h : w.heap[k]? = some o) : k < w.heap.size := by
  rcases Nat.lt_or_ge k w.heap.size with h' | h'
  · exact h'
  · rw [Array.getElem?_eq_none h'] at h; cases h
theorem own_below {w w' : World} {base : Nat} {e : TypeId} {size : Nat} {v : Value} {n : Nat} {xs : List Value} (h : w.ownsRow base e size v n xs) (hb : Below w.heap.size w w') : w'.ownsRow base e size v n xs := by
  obtain ⟨h1, h2⟩ := h
  refine ⟨h1, ?_⟩
  rcases h2 with h2 | ⟨g, cap, cur, hv, hg, hh, r⟩
  · exact Or.inl h2
  · exact Or.inr ⟨g, cap, cur, hv, hg, by rw [hb.block _ (blk_lt hh)]; exact hh, r⟩
/-- an owned row is not in a block of another type -/
theorem own_ne {w : World} {base : Nat} {e t : TypeId} {v : Value} {n : Nat} {xs : List Value} {k : Nat} {cs : Array Value} {fz : Nat × Nat} (h : w.ownsRow base e 1 v n xs) (hk : w.heap[k]? = some (.cells cs t fz)) (hne : e ≠ t) : v.ownBlock ≠ some k := by
  rcases h.2 with ⟨h2, _⟩ | ⟨g, cap, cur, hv, hg, hh, _⟩
  · rw [h2]; intro e; cases e
  · rw [hv]
    intro e'
    have : g = k := by simpa [Value.ownBlock] using e'
    subst this
    rw [hh] at hk
    simp only [Option.some.injEq, Obj.cells.injEq] at hk
    exact hne hk.2.1

section
variable {TBL SLOT : TypeId} {w w' : World} {B p q : Nat} {st : List Slt} {m : Nat} {r : Nat → Bool}

theorem Tb.below (h : Tb TBL SLOT w B p q st m r) (hb : Below w.heap.size w w') : Tb TBL SLOT w' B p q st m r := by
  obtain ⟨ra, rcap, h1, h2⟩ := h.tbl
  exact ⟨h.hp, h.hq, h.ne, h.n1, h.n2, ⟨ra, rcap, by rw [hb.block _ (blk_lt h1)]; exact h1, own_below h2 hb⟩, by rw [hb.block _ (blk_lt h.slots)]; exact h.slots, h.rb⟩

theorem setCell_block {w : World} {g i : Nat} {cs : Array Value} {t : TypeId} (h : w.heap[g]? = some (.cells cs t (0, 0))) (v : Value) : (w.setCell ⟨g, i, none⟩ v).heap[g]? = some (.cells (cs.setIfInBounds i v) t (0, 0)) := by
  have := block_setCell h (i := i) v; exact this

/-- the three cells of a slot are stored, and the number of those alive -/
theorem Tb.stored (h : Tb TBL SLOT w B p q st m r) (hs : 24 ≠ SLOT) (ht : 24 ≠ TBL) {i : Nat} (hi : i < st.length) (s : Slt) (m' : Nat) :
    Tb TBL SLOT ((((w.setCell ⟨q, i * 3, none⟩ (.int .i64 (s.1 : Int))).setCell ⟨q, i * 3 + 1, none⟩ (.bool s.2.1)).setCell ⟨q, i * 3 + 2, none⟩ s.2.2).setCell ⟨p, 3, none⟩ (.int .i64 (m' : Int))) B p q (st.set i s) m' r := by
  obtain ⟨ra, rcap, h1, h2⟩ := h.tbl
  have o1 := own_ne h2 h.slots hs
  have o2 := own_ne h2 h1 ht
  have hq0 := h.slots
  have hne := h.ne
  refine ⟨h.hp, h.hq, h.ne, by simpa using h.n1, by simpa using h.n2, ⟨ra, rcap, ?_, ?_⟩, ?_, by simpa using h.rb⟩
  · have e : ((((w.setCell ⟨q, i * 3, none⟩ (.int .i64 (s.1 : Int))).setCell ⟨q, i * 3 + 1, none⟩ (.bool s.2.1)).setCell ⟨q, i * 3 + 2, none⟩ s.2.2)).heap[p]? = some (.cells #[.slice (some ⟨q, 0, none⟩) st.length st.length, .int .i64 (st.length : Int), .slice ra ((st.length + 63) / 64) rcap, .int .i64 (m : Int)] TBL (0, 0)) := by
      rw [Below.heap_setCell _ _ _ _ hne, Below.heap_setCell _ _ _ _ hne, Below.heap_setCell _ _ _ _ hne]; exact h1
    rw [setCell_block e]; simp
  · rw [List.length_set]
    exact ownsRow_setCell_other (ownsRow_setCell_other (ownsRow_setCell_other (ownsRow_setCell_other h2 (by simpa using o1) _) (by simpa using o1) _) (by simpa using o1) _) (by simpa using o2) _
  · rw [Below.heap_setCell _ _ _ _ hne.symm, setCell_block (setCell_block (setCell_block hq0 _) _) _, slotCells_set st i hi s]; simp

/-- the bits are stored anew -/
theorem Tb.noted {ra' : Option Addr} {rcap' : Nat} {r' : Nat → Bool} (h : Tb TBL SLOT w B p q st m r) (ht : 24 ≠ TBL) (hb : Below w.heap.size w w') (ho : w'.ownsRow B 24 1 (.slice ra' ((st.length + 63) / 64) rcap') ((st.length + 63) / 64) (u64s (pack r' ((st.length + 63) / 64))))
    (hr : ∀ i, st.length ≤ i → r' i = false) :
    Tb TBL SLOT ((w'.setCell ⟨p, 1, none⟩ (.int .i64 (st.length : Int))).setCell ⟨p, 2, none⟩ (.slice ra' ((st.length + 63) / 64) rcap')) B p q st m r' := by
  have h' := h.below hb
  obtain ⟨ra, rcap, h1, h2⟩ := h'.tbl
  have o2 := own_ne ho h1 ht
  have hne := h.ne
  refine ⟨h.hp, h.hq, h.ne, h.n1, h.n2, ⟨ra', rcap', ?_, ?_⟩, ?_, hr⟩
  · rw [setCell_block (setCell_block h1 _) _]; simp
  · exact ownsRow_setCell_other (ownsRow_setCell_other ho (by simpa using o2) _) (by simpa using o2) _
  · rw [Below.heap_setCell _ _ _ _ hne.symm, Below.heap_setCell _ _ _ _ hne.symm]; exact h'.slots

theorem pack_filled (r : Nat → Bool) (len f t : Nat) (b : Bool) : pack (filled (bat (pack r len)) f t b) len = pack (filled r f t b) len :=
  pack_congr fun i hi => by unfold filled; rw [pack_bat _ _ _ hi]
/-- .. as note leaves them -/
theorem Tb.noted' {ra' : Option Addr} {rcap' i : Nat} {b c : Bool} (h : Tb TBL SLOT w B p q st m r) (ht : 24 ≠ TBL) (hi : i < st.length) (hB : B ≤ w.heap.size) (hbc : b = c) (hb : Below w.drew.heap.size w.drew w')
    (ho : w'.ownsRow w.drew.heap.size 24 1 (.slice ra' ((st.length + 63) / 64) rcap') ((st.length + 63) / 64) (u64s (pack (filled (bat (pack r ((st.length + 63) / 64))) i (i + 1) b) ((st.length + 63) / 64)))) :
    Tb TBL SLOT ((w'.setCell ⟨p, 1, none⟩ (.int .i64 (st.length : Int))).setCell ⟨p, 2, none⟩ (.slice ra' ((st.length + 63) / 64) rcap')) B p q st m (filled r i (i + 1) c) ∧
    Fr p q w ((w'.setCell ⟨p, 1, none⟩ (.int .i64 (st.length : Int))).setCell ⟨p, 2, none⟩ (.slice ra' ((st.length + 63) / 64) rcap')) := by
  subst hbc
  have hb' : Below w.heap.size w w' := ⟨hb.os, hb.tape, hb.output, hb.size, hb.block⟩
  rw [pack_filled] at ho
  refine ⟨h.noted ht hb' (ownsRow_le ho hB) fun j hj => ?_, ((Fr.of_below hb').trans (Fr.setP _ _ _)).trans (Fr.setP _ _ _)⟩
  unfold filled
  rw [if_neg (by omega)]
  exact h.rb j hj

/-- the cells that the methods read -/
theorem Tb.c0 (h : Tb TBL SLOT w B p q st m r) : w.cell? ⟨p, 0, none⟩ = some (.slice (some ⟨q, 0, none⟩) st.length st.length) := by
  obtain ⟨ra, rcap, h1, h2⟩ := h.tbl; rw [cell_of_block h1]; rfl
theorem Tb.c1 (h : Tb TBL SLOT w B p q st m r) : w.cell? ⟨p, 1, none⟩ = some (.int .i64 (st.length : Int)) := by
  obtain ⟨ra, rcap, h1, h2⟩ := h.tbl; rw [cell_of_block h1]; rfl
theorem Tb.c2 (h : Tb TBL SLOT w B p q st m r) : ∃ ra rcap, w.cell? ⟨p, 2, none⟩ = some (.slice ra ((st.length + 63) / 64) rcap) ∧ SlK .u64 w ra ((st.length + 63) / 64) (pack r ((st.length + 63) / 64)) := by
  obtain ⟨ra, rcap, h1, h2⟩ := h.tbl; exact ⟨ra, rcap, by rw [cell_of_block h1]; rfl, SlK.of_own h2⟩
theorem Tb.c3 (h : Tb TBL SLOT w B p q st m r) : w.cell? ⟨p, 3, none⟩ = some (.int .i64 (m : Int)) := by
  obtain ⟨ra, rcap, h1, h2⟩ := h.tbl; rw [cell_of_block h1]; rfl
theorem Tb.fp (h : Tb TBL SLOT w B p q st m r) (j : Nat) : w.frozen? ⟨p, j, none⟩ = false := by
  obtain ⟨ra, rcap, h1, h2⟩ := h.tbl; exact unfrozen_of_block h1 j
theorem Tb.fq (h : Tb TBL SLOT w B p q st m r) (j : Nat) : w.frozen? ⟨q, j, none⟩ = false := unfrozen_of_block h.slots j
theorem Tb.s0 (h : Tb TBL SLOT w B p q st m r) {i : Nat} (hi : i < st.length) : w.cell? ⟨q, i * 3, none⟩ = some (.int .i64 ((st.getD i (0, false, undef)).1 : Int)) := by
  rw [cell_of_block h.slots, List.getElem?_toArray]; exact (slotCells_get st i 0 hi (by decide)).trans rfl
theorem Tb.s1 (h : Tb TBL SLOT w B p q st m r) {i : Nat} (hi : i < st.length) : w.cell? ⟨q, i * 3 + 1, none⟩ = some (.bool (st.getD i (0, false, undef)).2.1) := by
  rw [cell_of_block h.slots, List.getElem?_toArray]; exact (slotCells_get st i 1 hi (by decide)).trans rfl
theorem Tb.s2 (h : Tb TBL SLOT w B p q st m r) {i : Nat} (hi : i < st.length) : w.cell? ⟨q, i * 3 + 2, none⟩ = some (st.getD i (0, false, undef)).2.2 := by
  rw [cell_of_block h.slots, List.getElem?_toArray]; exact (slotCells_get st i 2 hi (by decide)).trans rfl
theorem Tb.chk0 (h : Tb TBL SLOT w B p q st m r) : chk st.length (pack r ((st.length + 63) / 64)) = 0 := by
  have := h.n2
  refine chk_ok (by omega) (by rw [pack_length]; omega) fun i hi hn => ?_
  rw [pack_length] at hi
  rw [pack_bat _ _ _ hi]
  exact h.rb i (by omega)
end
end Go.Proofs.YtfmclbacoffdaaaDoor
