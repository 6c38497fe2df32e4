/- The radix map in memory: a whole node is stored. -/
import Derived.Test.YtfmclbacoffdaaaDoorR7MemB
import Derived.Laws.IdiomCopy
import Derived.Deep.Upon
namespace Go.Proofs.YtfmclbacoffdaaaDoor
open Go.RowKit Go.Sort Go.Joins
theorem setCells_list {g : Nat} {t : TypeId} : ∀ (vs : List Value) (o : Nat) (l : List Value) (w : World), w.heap[g]? = some (.cells l.toArray t (0, 0)) → o + vs.length ≤ l.length → (w.setCells g o vs).heap[g]? = some (.cells (l.take o ++ vs ++ l.drop (o + vs.length)).toArray t (0, 0))
  | [], o, l, w, h, _ => by
    simp only [World.setCells, List.append_nil, List.length_nil, Nat.add_zero, List.take_append_drop]
    exact h
  | v :: r, o, l, w, h, hl => by
    have h1 := setCell_block h (i := o) v
    have e1 : l.toArray.setIfInBounds o v = (l.set o v).toArray := by simp
    rw [e1] at h1
    have hl' : o + 1 + r.length ≤ (l.set o v).length := by simp only [List.length_set, List.length_cons] at *; omega
    have h2 := setCells_list r (o + 1) (l.set o v) (w.setCell ⟨g, o, none⟩ v) h1 hl'
    simp only [World.setCells]
    rw [h2]
    simp only [List.length_cons] at hl ⊢
    have ho : o < l.length := by omega
    have e2 : (l.set o v).take (o + 1) = l.take o ++ [v] := by
      rw [List.take_add_one, List.getElem?_set_self ho, List.take_set_of_le (Nat.le_refl _)]
      rfl
    have e3 : (l.set o v).drop (o + 1 + r.length) = l.drop (o + (r.length + 1)) := by
      rw [List.drop_set_of_lt (by omega), show o + 1 + r.length = o + (r.length + 1) by omega]
    rw [e2, e3, List.append_assoc (l.take o) [v] r]
    rfl
theorem ndc_one (x : Nd) : ∀ v ∈ ndc x, v.oneCell' = true := by
  intro v hv
  unfold ndc at hv
  simp only [List.mem_append, List.mem_cons, List.mem_map, List.not_mem_nil, or_false] at hv
  rcases hv with ((rfl | rfl) | ⟨k, _, rfl⟩) | ⟨k, _, rfl⟩ <;> rfl
theorem ndCells_put (d y : Nd) : ∀ (st : List Nd) (i : Nat), i < st.length → (ndCells st).take (i * 26) ++ ndc y ++ (ndCells st).drop (i * 26 + 26) = ndCells (st.set i y)
  | [], i, h => by simp at h
  | x :: l, 0, _ => by
    unfold ndCells
    rw [List.flatMap_cons, List.set_cons_zero, List.flatMap_cons, Nat.zero_mul, List.take_zero, List.nil_append, Nat.zero_add]
    rw [show (26 : Nat) = (ndc x).length from (ndc_length x).symm, List.drop_left]
  | x :: l, i + 1, h => by
    have ih := ndCells_put d y l i (by simpa using h)
    unfold ndCells at ih ⊢
    rw [List.flatMap_cons, List.set_cons_succ, List.flatMap_cons, ← ih]
    have e1 : (i + 1) * 26 = (ndc x).length + i * 26 := by rw [ndc_length]; omega
    rw [e1, List.take_append, List.drop_append]
    have e2 : (ndc x).length + i * 26 - (ndc x).length = i * 26 := by omega
    have e3 : (ndc x).length + i * 26 + 26 - (ndc x).length = i * 26 + 26 := by omega
    rw [e2, e3, List.take_of_length_le (by omega), List.drop_of_length_le (show (ndc x).length ≤ (ndc x).length + i * 26 + 26 by omega)]
    simp
theorem ownsRow_setCells_other {base : Nat} {e : TypeId} {v : Value} {n : Nat} {xs : List Value} {g : Nat} : ∀ (vs : List Value) (o : Nat) (w : World), w.ownsRow base e 1 v n xs → v.ownBlock ≠ some g → (w.setCells g o vs).ownsRow base e 1 v n xs
  | [], _, _, h, _ => h
  | u :: r, o, w, h, hne => ownsRow_setCells_other r (o + 1) _ (ownsRow_setCell_other h (a := ⟨g, o, none⟩) hne u) hne
theorem Fr.setsQ {p q : Nat} : ∀ (vs : List Value) (o : Nat) (w : World), Fr p q w (w.setCells q o vs)
  | [], _, w => Fr.refl p q w
  | v :: r, o, w => (Fr.setQ w o v).trans (Fr.setsQ r (o + 1) _)
section
variable {w : World} {B p q : Nat} {st : List Nd} {m : Nat} {r : Nat → Bool}
/-- a node is stored -/
theorem TM.node (h : TM w B p q st m r) {i : Nat} (hi : i < st.length) (y : Nd) : TM (w.setCells q (i * 26) (ndc y)) B p q (st.set i y) m r := by
  obtain ⟨ra, rcap, h1, h2⟩ := h.tbl
  have o1 := own_ne h2 h.nodes u_node
  have hne := h.ne
  have hL := ndCells_length st
  refine ⟨h.hp, h.hq, h.ne, by simpa using h.n1, by simpa using h.n2, ⟨ra, rcap, ?_, ?_⟩, ?_, by simpa using h.rb⟩
  · rw [List.length_set, World.heap_setCells_other w q (i * 26) (ndc y) (blk_lt h1) hne]; exact h1
  · rw [List.length_set]
    exact ownsRow_setCells_other _ _ _ h2 o1
  · rw [setCells_list (ndc y) (i * 26) (ndCells st) w h.nodes (by rw [ndc_length, hL]; omega), ndc_length, ndCells_put ndZ y st i hi]
/-- .. as Set leaves the bits -/
theorem TM.noted {w' : World} {ra' : Option Addr} {rcap' i : Nat} {b : Bool} (h : TM w B p q st m r) (hi : i < st.length) (hB : B ≤ w.heap.size) (hb : Below w.heap.size w w')
    (ho : w'.ownsRow w.heap.size 24 1 (.slice ra' ((st.length + 63) / 64) rcap') ((st.length + 63) / 64) (u64s (pack (filled (bat (pack r ((st.length + 63) / 64))) i (i + 1) b) ((st.length + 63) / 64)))) :
    TM ((w'.setCell ⟨p, 1, none⟩ (.int .i64 (st.length : Int))).setCell ⟨p, 2, none⟩ (.slice ra' ((st.length + 63) / 64) rcap')) B p q st m (filled r i (i + 1) b) ∧
    Fr p q w ((w'.setCell ⟨p, 1, none⟩ (.int .i64 (st.length : Int))).setCell ⟨p, 2, none⟩ (.slice ra' ((st.length + 63) / 64) rcap')) := by
  rw [pack_filled] at ho
  refine ⟨h.taken hb (ownsRow_le ho hB) fun j hj => ?_, ((Fr.of_below hb).trans (Fr.setP _ _ _)).trans (Fr.setP _ _ _)⟩
  unfold filled
  rw [if_neg (by omega)]
  exact h.rb j hj
end
end Go.Proofs.YtfmclbacoffdaaaDoor
