/- The radix map in memory. -/
import Derived.Test.YtfmclbacoffdaaaDoorR7Plain
namespace Go.Proofs.YtfmclbacoffdaaaDoor
open Go.RowKit Go.Sort Go.Joins
/-- a map at block p, its nodes at block q; the bits r say which numbers are taken; m: how many -/
structure TM (w : World) (B p q : Nat) (st : List Nd) (m : Nat) (r : Nat → Bool) : Prop where
  hp : B ≤ p
  hq : B ≤ q
  ne : p ≠ q
  n1 : 1 ≤ st.length
  n2 : st.length ≤ 145
  tbl : ∃ ra rcap, w.heap[p]? = some (.cells #[.slice (some ⟨q, 0, none⟩) st.length st.length, .int .i64 (st.length : Int), .slice ra ((st.length + 63) / 64) rcap, .int .i64 (m : Int)] 95 (0, 0)) ∧
    w.ownsRow B 24 1 (.slice ra ((st.length + 63) / 64) rcap) ((st.length + 63) / 64) (u64s (pack r ((st.length + 63) / 64)))
  nodes : w.heap[q]? = some (.cells (ndCells st).toArray 90 (0, 0))
  rb : ∀ i, st.length ≤ i → r i = false
theorem u_node : 24 ≠ 90 := by decide
theorem u_map : 24 ≠ 95 := by decide
section
variable {w w' : World} {B p q : Nat} {st : List Nd} {m : Nat} {r : Nat → Bool}
theorem TM.below (h : TM w B p q st m r) (hb : Below w.heap.size w w') : TM w' B p q st m r := by
  obtain ⟨ra, rcap, h1, h2⟩ := h.tbl
  exact ⟨h.hp, h.hq, h.ne, h.n1, h.n2, ⟨ra, rcap, by rw [hb.block _ (blk_lt h1)]; exact h1, own_below h2 hb⟩, by rw [hb.block _ (blk_lt h.nodes)]; exact h.nodes, h.rb⟩
/-- one cell of a node is stored -/
theorem TM.cell (h : TM w B p q st m r) {i j : Nat} {v : Value} {y : Nd} (hi : i < st.length) (hj : j < 26) (hy : (ndc (st.getD i ndZ)).set j v = ndc y) : TM (w.setCell ⟨q, i * 26 + j, none⟩ v) B p q (st.set i y) m r := by
  obtain ⟨ra, rcap, h1, h2⟩ := h.tbl
  have o1 := own_ne h2 h.nodes u_node
  have hne := h.ne
  refine ⟨h.hp, h.hq, h.ne, by simpa using h.n1, by simpa using h.n2, ⟨ra, rcap, ?_, ?_⟩, ?_, by simpa using h.rb⟩
  · rw [List.length_set, Below.heap_setCell _ _ _ _ hne]; exact h1
  · rw [List.length_set]
    exact ownsRow_setCell_other h2 (by simpa using o1) _
  · rw [setCell_block h.nodes, ← ndCells_set ndZ st i j v y hi hj hy, List.setIfInBounds_toArray]
/-- many is stored -/
theorem TM.many (h : TM w B p q st m r) (m' : Nat) : TM (w.setCell ⟨p, 3, none⟩ (.int .i64 (m' : Int))) B p q st m' r := by
  obtain ⟨ra, rcap, h1, h2⟩ := h.tbl
  have o2 := own_ne h2 h1 u_map
  have hne := h.ne
  refine ⟨h.hp, h.hq, h.ne, h.n1, h.n2, ⟨ra, rcap, ?_, ?_⟩, ?_, h.rb⟩
  · rw [setCell_block h1]; simp
  · exact ownsRow_setCell_other h2 (by simpa using o2) _
  · rw [Below.heap_setCell _ _ _ _ hne.symm]; exact h.nodes
/-- the bits are stored anew -/
theorem TM.taken {ra' : Option Addr} {rcap' : Nat} {r' : Nat → Bool} (h : TM w B p q st m r) (hb : Below w.heap.size w w') (ho : w'.ownsRow B 24 1 (.slice ra' ((st.length + 63) / 64) rcap') ((st.length + 63) / 64) (u64s (pack r' ((st.length + 63) / 64))))
    (hr : ∀ i, st.length ≤ i → r' i = false) :
    TM ((w'.setCell ⟨p, 1, none⟩ (.int .i64 (st.length : Int))).setCell ⟨p, 2, none⟩ (.slice ra' ((st.length + 63) / 64) rcap')) B p q st m r' := by
  have h' := h.below hb
  obtain ⟨ra, rcap, h1, h2⟩ := h'.tbl
  have o2 := own_ne ho h1 u_map
  have hne := h.ne
  refine ⟨h.hp, h.hq, h.ne, h.n1, h.n2, ⟨ra', rcap', ?_, ?_⟩, ?_, hr⟩
  · rw [setCell_block (setCell_block h1 _) _]; simp
  · exact ownsRow_setCell_other (ownsRow_setCell_other ho (by simpa using o2) _) (by simpa using o2) _
  · rw [Below.heap_setCell _ _ _ _ hne.symm, Below.heap_setCell _ _ _ _ hne.symm]; exact h'.nodes
theorem TM.c0 (h : TM w B p q st m r) : w.cell? ⟨p, 0, none⟩ = some (.slice (some ⟨q, 0, none⟩) st.length st.length) := by
  obtain ⟨ra, rcap, h1, h2⟩ := h.tbl; rw [cell_of_block h1]; rfl
theorem TM.c1 (h : TM w B p q st m r) : w.cell? ⟨p, 1, none⟩ = some (.int .i64 (st.length : Int)) := by
  obtain ⟨ra, rcap, h1, h2⟩ := h.tbl; rw [cell_of_block h1]; rfl
theorem TM.c2 (h : TM w B p q st m r) : ∃ ra rcap, w.cell? ⟨p, 2, none⟩ = some (.slice ra ((st.length + 63) / 64) rcap) ∧ SlK .u64 w ra ((st.length + 63) / 64) (pack r ((st.length + 63) / 64)) := by
  obtain ⟨ra, rcap, h1, h2⟩ := h.tbl; exact ⟨ra, rcap, by rw [cell_of_block h1]; rfl, SlK.of_own h2⟩
theorem TM.c3 (h : TM w B p q st m r) : w.cell? ⟨p, 3, none⟩ = some (.int .i64 (m : Int)) := by
  obtain ⟨ra, rcap, h1, h2⟩ := h.tbl; rw [cell_of_block h1]; rfl
theorem TM.fp (h : TM w B p q st m r) (j : Nat) : w.frozen? ⟨p, j, none⟩ = false := by
  obtain ⟨ra, rcap, h1, h2⟩ := h.tbl; exact unfrozen_of_block h1 j
theorem TM.fq (h : TM w B p q st m r) (j : Nat) : w.frozen? ⟨q, j, none⟩ = false := unfrozen_of_block h.nodes j
theorem TM.at_ (h : TM w B p q st m r) {i j : Nat} (hi : i < st.length) (hj : j < 26) : w.cell? ⟨q, i * 26 + j, none⟩ = (ndc (st.getD i ndZ))[j]? := by
  rw [cell_of_block h.nodes, List.getElem?_toArray]; exact ndCells_get ndZ st i j hi hj
theorem TM.lv (h : TM w B p q st m r) {i : Nat} (hi : i < st.length) : w.cell? ⟨q, i * 26, none⟩ = some (.int .i64 (st.getD i ndZ).lv) := (h.at_ (j := 0) hi (by decide)).trans (ndc_lv _)
theorem TM.mn (h : TM w B p q st m r) {i : Nat} (hi : i < st.length) : w.cell? ⟨q, i * 26 + 1, none⟩ = some (.int .i64 ((st.getD i ndZ).mn : Int)) := (h.at_ (j := 1) hi (by decide)).trans (ndc_mn _)
theorem TM.kd (h : TM w B p q st m r) {i k : Nat} (hi : i < st.length) (hk : k < 16) : w.cell? ⟨q, i * 26 + 2 + k, none⟩ = some (.int .i64 ((st.getD i ndZ).kd k : Int)) := by
  rw [Nat.add_assoc, h.at_ hi (by omega), ndc_kd _ hk]
theorem TM.wd (h : TM w B p q st m r) {i k : Nat} (hi : i < st.length) (hk : k < 8) : w.cell? ⟨q, i * 26 + 18 + k, none⟩ = some (.int .u64 ((st.getD i ndZ).wd k : Int)) := by
  rw [Nat.add_assoc, h.at_ hi (by omega), ndc_wd _ hk]
theorem TM.chk0 (h : TM w B p q st m r) : chk st.length (pack r ((st.length + 63) / 64)) = 0 := by
  have := h.n2
  refine chk_ok (by omega) (by rw [pack_length]; omega) fun i hi hn => ?_
  rw [pack_length] at hi
  rw [pack_bat _ _ _ hi]
  exact h.rb i (by omega)
theorem TM.lp (h : TM w B p q st m r) : p < w.heap.size := by obtain ⟨ra, rcap, h1, h2⟩ := h.tbl; exact blk_lt h1
theorem TM.lq (h : TM w B p q st m r) : q < w.heap.size := blk_lt h.nodes
end
end Go.Proofs.YtfmclbacoffdaaaDoor
