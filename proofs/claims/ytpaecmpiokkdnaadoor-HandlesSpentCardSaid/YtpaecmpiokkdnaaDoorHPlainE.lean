/- Handles: a slot that is dropped; one whose value is set. -/
import Derived.Test.YtpaecmpiokkdnaaDoorHFindP
namespace Go.Proofs.YtpaecmpiokkdnaaDoor
open Go.RowKit Go.Sort Go.Joins

theorem set_same {α : Type} {l : List α} {k : Nat} {v : α} (h : l[k]? = some v) : l.set k v = l := by
  apply List.ext_getElem?
  intro j
  rw [List.getElem?_set]
  by_cases e : k = j
  · subst e
    rw [if_pos rfl, if_pos (List.getElem?_eq_some_iff.1 h).1, h]
  · rw [if_neg e]
theorem slotCells_drop (st : List Slt) (i g : Nat) (hi : i < st.length) (hg : (st.getD i (0, false, undef)).1 = g) (z : Value) :
    slotCells (st.set i (g, false, z)) = ((slotCells st).set (i * 3 + 2) z).set (i * 3 + 1) (.bool false) := by
  rw [slotCells_set st i hi]
  dsimp only
  have e := slotCells_get st i 0 hi (by decide)
  rw [Nat.add_zero, sc, hg] at e
  rw [set_same (e.trans rfl), List.set_comm _ _ (by omega)]
theorem slotCells_val (st : List Slt) (i : Nat) (hi : i < st.length) (v : Value) :
    slotCells (st.set i ((st.getD i (0, false, undef)).1, (st.getD i (0, false, undef)).2.1, v)) = (slotCells st).set (i * 3 + 2) v := by
  rw [slotCells_set st i hi]
  dsimp only
  have e := slotCells_get st i 0 hi (by decide)
  rw [Nat.add_zero, sc] at e
  have e2 := slotCells_get st i 1 hi (by decide)
  rw [sc] at e2
  rw [set_same (e.trans rfl), set_same (e2.trans rfl)]

section
variable {TBL SLOT : TypeId} {w w' : World} {B p q : Nat} {st : List Slt} {m : Nat} {r : Nat → Bool}
theorem Tb.dropped (h : Tb TBL SLOT w B p q st m r) (hs : 144 ≠ SLOT) (ht : 144 ≠ TBL) {i g : Nat} (hi : i < st.length) (hg : (st.getD i (0, false, undef)).1 = g) (z : Value) (m' : Int) (k : Nat) (hm : m' = k) :
    Tb TBL SLOT (((w.setCell ⟨q, i * 3 + 2, none⟩ z).setCell ⟨q, i * 3 + 1, none⟩ (.bool false)).setCell ⟨p, 3, none⟩ (.int .i64 m')) B p q (st.set i (g, false, z)) k r := by
  subst hm
  obtain ⟨ra, rcap, h1, h2⟩ := h.tbl
  have o1 := own_ne h2 h.slots hs
  have o2 := own_ne h2 h1 ht
  have hq0 := h.slots
  have hne := h.ne
  refine ⟨h.hp, h.hq, h.ne, by simpa using h.n1, by simpa using h.n2, ⟨ra, rcap, ?_, ?_⟩, ?_, by simpa using h.rb⟩
  · have e : (((w.setCell ⟨q, i * 3 + 2, none⟩ z).setCell ⟨q, i * 3 + 1, none⟩ (.bool false))).heap[p]? = some (.cells #[.slice (some ⟨q, 0, none⟩) st.length st.length, .int .i64 (st.length : Int), .slice ra ((st.length + 63) / 64) rcap, .int .i64 (m : Int)] TBL (0, 0)) := by
      rw [Below.heap_setCell _ _ _ _ hne, Below.heap_setCell _ _ _ _ hne]; exact h1
    rw [setCell_block e]; simp
  · rw [List.length_set]
    exact ownsRow_setCell_other (ownsRow_setCell_other (ownsRow_setCell_other h2 (a := ⟨q, i * 3 + 2, none⟩) o1 _) (a := ⟨q, i * 3 + 1, none⟩) o1 _) (a := ⟨p, 3, none⟩) o2 _
  · rw [Below.heap_setCell _ _ _ _ hne.symm, setCell_block (setCell_block hq0 _) _, slotCells_drop st i g hi hg]; simp
theorem Tb.valued (h : Tb TBL SLOT w B p q st m r) (hs : 144 ≠ SLOT) {i : Nat} (hi : i < st.length) (v : Value) :
    Tb TBL SLOT (w.setCell ⟨q, i * 3 + 2, none⟩ v) B p q (st.set i ((st.getD i (0, false, undef)).1, (st.getD i (0, false, undef)).2.1, v)) m r := by
  obtain ⟨ra, rcap, h1, h2⟩ := h.tbl
  have o1 := own_ne h2 h.slots hs
  have hne := h.ne
  refine ⟨h.hp, h.hq, h.ne, by simpa using h.n1, by simpa using h.n2, ⟨ra, rcap, ?_, ?_⟩, ?_, by simpa using h.rb⟩
  · rw [List.length_set, Below.heap_setCell _ _ _ _ hne]; exact h1
  · rw [List.length_set]
    exact ownsRow_setCell_other h2 (a := ⟨q, i * 3 + 2, none⟩) o1 _
  · rw [setCell_block h.slots _, slotCells_val st i hi v]; simp
end
end Go.Proofs.YtpaecmpiokkdnaaDoor
