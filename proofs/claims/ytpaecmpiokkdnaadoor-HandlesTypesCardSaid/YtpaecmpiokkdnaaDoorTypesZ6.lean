/- Handles of structs: slots of four cells as lists; tables of them in memory. | Handles of structs: tables whose parts agree with each other; what find answers. | Handles of Things: Check. | Handles of Things: made, handle, note. -/
import Derived.Test.YtpaecmpiokkdnaaDoorTypesZ5
import Derived.StillTailTactics
import Derived.Deep.RegionWith
namespace Go.Proofs.YtpaecmpiokkdnaaDoor.Thing
open Go.RowKit Go.Sort Go.Joins

/-- the parts of a value of two cells -/
def a0 : Value → Value
  | .agg xs => xs.getD 0 undef
  | _ => undef
def a1 : Value → Value
  | .agg xs => xs.getD 1 undef
  | _ => undef
/-- a Thing -/
abbrev tv (s : ByteArray) (x : Int) : Value := .agg #[.string s, .int .i64 x]
abbrev zT : Value := .agg #[.string ⟨#[]⟩, .int .i64 0]
def sc (s : Slt) : List Value := [.int .i64 (s.1 : Int), .bool s.2.1, a0 s.2.2, a1 s.2.2]
def slotCells : List Slt → List Value
  | [] => []
  | s :: l => sc s ++ slotCells l
theorem slotCells_length : ∀ st : List Slt, (slotCells st).length = 4 * st.length
  | [] => rfl
  | s :: l => by simp only [slotCells, List.length_append, slotCells_length l, sc, List.length_cons, List.length_nil]; omega
theorem slotCells_get : ∀ (st : List Slt) (i j : Nat) (_ : i < st.length) (_ : j < 4), (slotCells st)[i * 4 + j]? = (sc (st.getD i (0, false, undef)))[j]?
  | [], i, _, h, _ => by simp at h
  | s :: l, 0, j, _, hj => by
    simp only [slotCells, Nat.zero_mul, Nat.zero_add]
    rw [List.getElem?_append_left (by simp [sc]; omega)]; rfl
  | s :: l, i + 1, j, h, hj => by
    simp only [slotCells]
    rw [List.getElem?_append_right (by simp [sc]; omega), show (i + 1) * 4 + j - (sc s).length = i * 4 + j by simp [sc]; omega, slotCells_get l i j (by simpa using h) hj]
    rfl
theorem slotCells_set : ∀ (st : List Slt) (i : Nat) (_ : i < st.length) (s : Slt), slotCells (st.set i s) = ((((slotCells st).set (i * 4) (.int .i64 (s.1 : Int))).set (i * 4 + 1) (.bool s.2.1)).set (i * 4 + 2) (a0 s.2.2)).set (i * 4 + 3) (a1 s.2.2)
  | [], i, h, _ => by simp at h
  | t :: l, 0, _, s => by simp [slotCells, sc]
  | t :: l, i + 1, h, s => by
    simp only [List.set_cons_succ, slotCells]
    rw [slotCells_set l i (by simpa using h) s, show (i + 1) * 4 = (i * 4) + 4 by omega]
    simp [sc]
/-- a table at block p, its slots at block q; the bits r say which slots can give a handle -/
structure Tb (TBL SLOT : TypeId) (w : World) (B p q : Nat) (st : List Slt) (m : Nat) (r : Nat → Bool) : Prop where
  hp : B ≤ p
  hq : B ≤ q
  ne : p ≠ q
  n1 : 1 ≤ st.length
  n2 : st.length ≤ 1024
  tbl : ∃ ra rcap, w.heap[p]? = some (.cells #[.slice (some ⟨q, 0, none⟩) st.length st.length, .int .i64 (st.length : Int), .slice ra ((st.length + 63) / 64) rcap, .int .i64 (m : Int)] TBL (0, 0)) ∧
    w.ownsRow B 144 1 (.slice ra ((st.length + 63) / 64) rcap) ((st.length + 63) / 64) (u64s (pack r ((st.length + 63) / 64)))
  slots : w.heap[q]? = some (.cells (slotCells st).toArray SLOT (0, 0))
  rb : ∀ i, st.length ≤ i → r i = false

section
variable {TBL SLOT : TypeId} {w w' : World} {B p q : Nat} {st : List Slt} {m : Nat} {r : Nat → Bool}

theorem Tb.below (h : Tb TBL SLOT w B p q st m r) (hb : Below w.heap.size w w') : Tb TBL SLOT w' B p q st m r := by
  obtain ⟨ra, rcap, h1, h2⟩ := h.tbl
  exact ⟨h.hp, h.hq, h.ne, h.n1, h.n2, ⟨ra, rcap, by rw [hb.block _ (blk_lt h1)]; exact h1, own_below h2 hb⟩, by rw [hb.block _ (blk_lt h.slots)]; exact h.slots, h.rb⟩

/-- the four cells of a slot are stored, and the number of those alive -/
theorem Tb.stored (h : Tb TBL SLOT w B p q st m r) (hs : 144 ≠ SLOT) (ht : 144 ≠ TBL) {i : Nat} (hi : i < st.length) (s : Slt) (m' : Nat) :
    Tb TBL SLOT (((((w.setCell ⟨q, i * 4, none⟩ (.int .i64 (s.1 : Int))).setCell ⟨q, i * 4 + 1, none⟩ (.bool s.2.1)).setCell ⟨q, i * 4 + 2, none⟩ (a0 s.2.2)).setCell ⟨q, i * 4 + 3, none⟩ (a1 s.2.2)).setCell ⟨p, 3, none⟩ (.int .i64 (m' : Int))) B p q (st.set i s) m' r := by
  obtain ⟨ra, rcap, h1, h2⟩ := h.tbl
  have o1 := own_ne h2 h.slots hs
  have o2 := own_ne h2 h1 ht
  have hq0 := h.slots
  have hne := h.ne
  refine ⟨h.hp, h.hq, h.ne, by simpa using h.n1, by simpa using h.n2, ⟨ra, rcap, ?_, ?_⟩, ?_, by simpa using h.rb⟩
  · have e : (((((w.setCell ⟨q, i * 4, none⟩ (.int .i64 (s.1 : Int))).setCell ⟨q, i * 4 + 1, none⟩ (.bool s.2.1)).setCell ⟨q, i * 4 + 2, none⟩ (a0 s.2.2)).setCell ⟨q, i * 4 + 3, none⟩ (a1 s.2.2))).heap[p]? = some (.cells #[.slice (some ⟨q, 0, none⟩) st.length st.length, .int .i64 (st.length : Int), .slice ra ((st.length + 63) / 64) rcap, .int .i64 (m : Int)] TBL (0, 0)) := by
      rw [Below.heap_setCell _ _ _ _ hne, Below.heap_setCell _ _ _ _ hne, Below.heap_setCell _ _ _ _ hne, Below.heap_setCell _ _ _ _ hne]; exact h1
    rw [setCell_block e]; simp
  · rw [List.length_set]
    exact ownsRow_setCell_other (ownsRow_setCell_other (ownsRow_setCell_other (ownsRow_setCell_other (ownsRow_setCell_other h2 (by simpa using o1) _) (by simpa using o1) _) (by simpa using o1) _) (by simpa using o1) _) (by simpa using o2) _
  · rw [Below.heap_setCell _ _ _ _ hne.symm, setCell_block (setCell_block (setCell_block (setCell_block hq0 _) _) _) _, slotCells_set st i hi s]; simp

/-- the bits are stored anew -/
theorem Tb.noted {ra' : Option Addr} {rcap' : Nat} {r' : Nat → Bool} (h : Tb TBL SLOT w B p q st m r) (ht : 144 ≠ TBL) (hb : Below w.heap.size w w') (ho : w'.ownsRow B 144 1 (.slice ra' ((st.length + 63) / 64) rcap') ((st.length + 63) / 64) (u64s (pack r' ((st.length + 63) / 64))))
    (hr : ∀ i, st.length ≤ i → r' i = false) :
    Tb TBL SLOT ((w'.setCell ⟨p, 1, none⟩ (.int .i64 (st.length : Int))).setCell ⟨p, 2, none⟩ (.slice ra' ((st.length + 63) / 64) rcap')) B p q st m r' := by
  have h' := h.below hb
  obtain ⟨ra, rcap, h1, h2⟩ := h'.tbl
  have o2 := own_ne ho h1 ht
  have hne := h.ne
  refine ⟨h.hp, h.hq, h.ne, h.n1, h.n2, ⟨ra', rcap', ?_, ?_⟩, ?_, hr⟩
  · rw [setCell_block (setCell_block h1 _) _]; simp
  · exact ownsRow_setCell_other (ownsRow_setCell_other ho (by simpa using o2) _) (by simpa using o2) _
  · rw [Below.heap_setCell _ _ _ _ hne.symm, Below.heap_setCell _ _ _ _ hne.symm]; exact h'.slots

/-- .. as note leaves them -/
theorem Tb.noted' {ra' : Option Addr} {rcap' i : Nat} {b c : Bool} (h : Tb TBL SLOT w B p q st m r) (ht : 144 ≠ TBL) (hi : i < st.length) (hB : B ≤ w.heap.size) (hbc : b = c) (hb : Below w.drew.heap.size w.drew w')
    (ho : w'.ownsRow w.drew.heap.size 144 1 (.slice ra' ((st.length + 63) / 64) rcap') ((st.length + 63) / 64) (u64s (pack (filled (bat (pack r ((st.length + 63) / 64))) i (i + 1) b) ((st.length + 63) / 64)))) :
    Tb TBL SLOT ((w'.setCell ⟨p, 1, none⟩ (.int .i64 (st.length : Int))).setCell ⟨p, 2, none⟩ (.slice ra' ((st.length + 63) / 64) rcap')) B p q st m (filled r i (i + 1) c) ∧
    Fr p q w ((w'.setCell ⟨p, 1, none⟩ (.int .i64 (st.length : Int))).setCell ⟨p, 2, none⟩ (.slice ra' ((st.length + 63) / 64) rcap')) := by
  subst hbc
  have hb' : Below w.heap.size w w' := ⟨hb.os, hb.tape, hb.output, hb.size, hb.block⟩
  rw [pack_filled] at ho
  refine ⟨h.noted ht hb' (ownsRow_le ho hB) fun j hj => ?_, ((Fr.of_below hb').trans (Fr.setP _ _ _)).trans (Fr.setP _ _ _)⟩
  unfold filled
  rw [if_neg (by omega)]
  exact h.rb j hj

/-- the cells that the methods read -/
theorem Tb.c0 (h : Tb TBL SLOT w B p q st m r) : w.cell? ⟨p, 0, none⟩ = some (.slice (some ⟨q, 0, none⟩) st.length st.length) := by
  obtain ⟨ra, rcap, h1, h2⟩ := h.tbl; rw [cell_of_block h1]; rfl
theorem Tb.c1 (h : Tb TBL SLOT w B p q st m r) : w.cell? ⟨p, 1, none⟩ = some (.int .i64 (st.length : Int)) := by
  obtain ⟨ra, rcap, h1, h2⟩ := h.tbl; rw [cell_of_block h1]; rfl
theorem Tb.c2 (h : Tb TBL SLOT w B p q st m r) : ∃ ra rcap, w.cell? ⟨p, 2, none⟩ = some (.slice ra ((st.length + 63) / 64) rcap) ∧ SlK .u64 w ra ((st.length + 63) / 64) (pack r ((st.length + 63) / 64)) := by
  obtain ⟨ra, rcap, h1, h2⟩ := h.tbl; exact ⟨ra, rcap, by rw [cell_of_block h1]; rfl, SlK.of_own h2⟩
theorem Tb.c3 (h : Tb TBL SLOT w B p q st m r) : w.cell? ⟨p, 3, none⟩ = some (.int .i64 (m : Int)) := by
  obtain ⟨ra, rcap, h1, h2⟩ := h.tbl; rw [cell_of_block h1]; rfl
theorem Tb.fp (h : Tb TBL SLOT w B p q st m r) (j : Nat) : w.frozen? ⟨p, j, none⟩ = false := by
  obtain ⟨ra, rcap, h1, h2⟩ := h.tbl; exact unfrozen_of_block h1 j
theorem Tb.fq (h : Tb TBL SLOT w B p q st m r) (j : Nat) : w.frozen? ⟨q, j, none⟩ = false := unfrozen_of_block h.slots j
theorem Tb.s0 (h : Tb TBL SLOT w B p q st m r) {i : Nat} (hi : i < st.length) : w.cell? ⟨q, i * 4, none⟩ = some (.int .i64 ((st.getD i (0, false, undef)).1 : Int)) := by
  rw [cell_of_block h.slots, List.getElem?_toArray]; exact (slotCells_get st i 0 hi (by decide)).trans rfl
theorem Tb.s1 (h : Tb TBL SLOT w B p q st m r) {i : Nat} (hi : i < st.length) : w.cell? ⟨q, i * 4 + 1, none⟩ = some (.bool (st.getD i (0, false, undef)).2.1) := by
  rw [cell_of_block h.slots, List.getElem?_toArray]; exact (slotCells_get st i 1 hi (by decide)).trans rfl
theorem Tb.s2 (h : Tb TBL SLOT w B p q st m r) {i : Nat} (hi : i < st.length) : w.cell? ⟨q, i * 4 + 2, none⟩ = some (a0 (st.getD i (0, false, undef)).2.2) := by
  rw [cell_of_block h.slots, List.getElem?_toArray]; exact (slotCells_get st i 2 hi (by decide)).trans rfl
theorem Tb.s3 (h : Tb TBL SLOT w B p q st m r) {i : Nat} (hi : i < st.length) : w.cell? ⟨q, i * 4 + 3, none⟩ = some (a1 (st.getD i (0, false, undef)).2.2) := by
  rw [cell_of_block h.slots, List.getElem?_toArray]; exact (slotCells_get st i 3 hi (by decide)).trans rfl
theorem Tb.chk0 (h : Tb TBL SLOT w B p q st m r) : chk st.length (pack r ((st.length + 63) / 64)) = 0 := by
  have := h.n2
  refine chk_ok (by omega) (by rw [pack_length]; omega) fun i hi hn => ?_
  rw [pack_length] at hi
  rw [pack_bat _ _ _ hi]
  exact h.rb i (by omega)
end
theorem slotCells_replicate (s : Slt) : ∀ (n k : Nat), k < n * 4 → (slotCells (List.replicate n s))[k]? = (sc s)[k % 4]?
  | 0, k, h => by omega
  | n + 1, k, h => by
    rw [List.replicate_succ]
    simp only [slotCells]
    by_cases hk : k < 4
    · rw [List.getElem?_append_left (by simp [sc]; omega), Nat.mod_eq_of_lt hk]
    · rw [List.getElem?_append_right (by simp [sc]; omega), show k - (sc s).length = k - 4 by simp [sc], slotCells_replicate s n (k - 4) (by omega), show (k - 4) % 4 = k % 4 by omega]
theorem made_slots (n : Nat) : (madeCells #[.int .i64 0, .bool false, .string ⟨#[]⟩, .int .i64 0] (n * 4)).toList = slotCells (List.replicate n (0, false, zT)) := by
  apply List.ext_getElem?
  intro k
  by_cases hk : k < n * 4
  · rw [slotCells_replicate _ _ _ hk]
    have h3 : k % 4 < 4 := Nat.mod_lt _ (by decide)
    simp only [madeCells, Array.toList_map, Array.toList_range, List.getElem?_map, List.getElem?_range hk, Option.map_some]
    obtain ⟨j, hj⟩ : ∃ j, j = k % 4 := ⟨_, rfl⟩
    have e : k % (#[Value.int .i64 0, .bool false, .string ⟨#[]⟩, .int .i64 0] : Array Value).size = j := by rw [hj]; rfl
    rw [e, ← hj]
    rw [← hj] at h3
    match j, h3 with
    | 0, _ => rfl
    | 1, _ => rfl
    | 2, _ => rfl
    | 3, _ => rfl
  · rw [List.getElem?_eq_none (by simp [madeCells]; omega), List.getElem?_eq_none (by rw [slotCells_length, List.length_replicate]; omega)]
theorem next_tb {TBL SLOT : TypeId} {w : World} {B p q : Nat} {st : List Slt} {m : Nat} {r : Nat → Bool} (h : Tb TBL SLOT w B p q st m r) :
    nextV st.length (pack r ((st.length + 63) / 64)) 0 true = (if nxt r 0 st.length < st.length then ((nxt r 0 st.length : Nat) : Int) else 0) ∧
    nextE st.length (pack r ((st.length + 63) / 64)) 0 true = (if nxt r 0 st.length < st.length then 0 else 4) := by
  have e : nxt (look (pack r ((st.length + 63) / 64)) true) 0 st.length = nxt r 0 st.length := nxt_congr (Nat.zero_le _) fun i _ hi => by
    unfold look
    rw [pack_bat _ _ _ (by omega)]; simp
  have hp : prt st.length (pack r ((st.length + 63) / 64)) 0 0 = 0 := prt_ok h.chk0 (by omega)
  unfold nextV nextE
  simp only [Int.toNat_natCast, hp, Int.toNat_zero, e]
  simp
theorem slotCells_drop (st : List Slt) (i g : Nat) (hi : i < st.length) (hg : (st.getD i (0, false, undef)).1 = g) (z : Value) :
    slotCells (st.set i (g, false, z)) = (((slotCells st).set (i * 4 + 2) (a0 z)).set (i * 4 + 3) (a1 z)).set (i * 4 + 1) (.bool false) := by
  rw [slotCells_set st i hi]
  dsimp only
  have e := slotCells_get st i 0 hi (by decide)
  rw [Nat.add_zero, sc, hg] at e
  rw [set_same (e.trans rfl), List.set_comm _ _ (show i * 4 + 1 ≠ i * 4 + 2 by omega), List.set_comm _ _ (show i * 4 + 1 ≠ i * 4 + 3 by omega)]
theorem slotCells_val (st : List Slt) (i : Nat) (hi : i < st.length) (v : Value) :
    slotCells (st.set i ((st.getD i (0, false, undef)).1, (st.getD i (0, false, undef)).2.1, v)) = ((slotCells st).set (i * 4 + 2) (a0 v)).set (i * 4 + 3) (a1 v) := by
  rw [slotCells_set st i hi]
  dsimp only
  have e := slotCells_get st i 0 hi (by decide)
  rw [Nat.add_zero, sc] at e
  have e2 := slotCells_get st i 1 hi (by decide)
  rw [sc] at e2
  rw [set_same (e.trans rfl), set_same (e2.trans rfl)]

section
variable {TBL SLOT : TypeId} {w w' : World} {B p q : Nat} {st : List Slt} {m : Nat} {r : Nat → Bool}
theorem Tb.dropped (h : Tb TBL SLOT w B p q st m r) (hs : 144 ≠ SLOT) (ht : 144 ≠ TBL) {i g : Nat} (hi : i < st.length) (hg : (st.getD i (0, false, undef)).1 = g) (z : Value) (m' : Int) (k : Nat) (hm : m' = k) :
    Tb TBL SLOT ((((w.setCell ⟨q, i * 4 + 2, none⟩ (a0 z)).setCell ⟨q, i * 4 + 3, none⟩ (a1 z)).setCell ⟨q, i * 4 + 1, none⟩ (.bool false)).setCell ⟨p, 3, none⟩ (.int .i64 m')) B p q (st.set i (g, false, z)) k r := by
  subst hm
  obtain ⟨ra, rcap, h1, h2⟩ := h.tbl
  have o1 := own_ne h2 h.slots hs
  have o2 := own_ne h2 h1 ht
  have hq0 := h.slots
  have hne := h.ne
  refine ⟨h.hp, h.hq, h.ne, by simpa using h.n1, by simpa using h.n2, ⟨ra, rcap, ?_, ?_⟩, ?_, by simpa using h.rb⟩
  · have e : ((((w.setCell ⟨q, i * 4 + 2, none⟩ (a0 z)).setCell ⟨q, i * 4 + 3, none⟩ (a1 z)).setCell ⟨q, i * 4 + 1, none⟩ (.bool false))).heap[p]? = some (.cells #[.slice (some ⟨q, 0, none⟩) st.length st.length, .int .i64 (st.length : Int), .slice ra ((st.length + 63) / 64) rcap, .int .i64 (m : Int)] TBL (0, 0)) := by
      rw [Below.heap_setCell _ _ _ _ hne, Below.heap_setCell _ _ _ _ hne, Below.heap_setCell _ _ _ _ hne]; exact h1
    rw [setCell_block e]; simp
  · rw [List.length_set]
    exact ownsRow_setCell_other (ownsRow_setCell_other (ownsRow_setCell_other (ownsRow_setCell_other h2 (a := ⟨q, i * 4 + 2, none⟩) o1 _) (a := ⟨q, i * 4 + 3, none⟩) o1 _) (a := ⟨q, i * 4 + 1, none⟩) o1 _) (a := ⟨p, 3, none⟩) o2 _
  · rw [Below.heap_setCell _ _ _ _ hne.symm, setCell_block (setCell_block (setCell_block hq0 _) _) _, slotCells_drop st i g hi hg]; simp
theorem Tb.valued (h : Tb TBL SLOT w B p q st m r) (hs : 144 ≠ SLOT) {i : Nat} (hi : i < st.length) (v : Value) :
    Tb TBL SLOT ((w.setCell ⟨q, i * 4 + 2, none⟩ (a0 v)).setCell ⟨q, i * 4 + 3, none⟩ (a1 v)) B p q (st.set i ((st.getD i (0, false, undef)).1, (st.getD i (0, false, undef)).2.1, v)) m r := by
  obtain ⟨ra, rcap, h1, h2⟩ := h.tbl
  have o1 := own_ne h2 h.slots hs
  have hne := h.ne
  refine ⟨h.hp, h.hq, h.ne, by simpa using h.n1, by simpa using h.n2, ⟨ra, rcap, ?_, ?_⟩, ?_, by simpa using h.rb⟩
  · rw [List.length_set, Below.heap_setCell _ _ _ _ hne, Below.heap_setCell _ _ _ _ hne]; exact h1
  · rw [List.length_set]
    exact ownsRow_setCell_other (ownsRow_setCell_other h2 (a := ⟨q, i * 4 + 2, none⟩) o1 _) (a := ⟨q, i * 4 + 3, none⟩) o1 _
  · rw [setCell_block (setCell_block h.slots _) _, slotCells_val st i hi v]; simp
end
end Go.Proofs.YtpaecmpiokkdnaaDoor.Thing

namespace Go.Proofs.YtpaecmpiokkdnaaDoor.Thing
open Go.RowKit Go.Sort Go.Joins

/-- a table: how many are alive, and which slots can give a handle, follow from the slots -/
def Tg (TBL SLOT : TypeId) (w : World) (B p q : Nat) (st : List Slt) : Prop := Tb TBL SLOT w B p q st (st.countP alv) (rdyF st)
theorem Tg.n1 {TBL SLOT : TypeId} {w : World} {B p q : Nat} {st : List Slt} (h : Tg TBL SLOT w B p q st) : 1 ≤ st.length := Tb.n1 h
theorem Tg.n2 {TBL SLOT : TypeId} {w : World} {B p q : Nat} {st : List Slt} (h : Tg TBL SLOT w B p q st) : st.length ≤ 1024 := Tb.n2 h
theorem Tg.count_le {TBL SLOT : TypeId} {w : World} {B p q : Nat} {st : List Slt} (h : Tg TBL SLOT w B p q st) : st.countP alv ≤ 1024 := Nat.le_trans (List.countP_le_length) (Tb.n2 h)
theorem Tg.below {TBL SLOT : TypeId} {w w' : World} {B p q : Nat} {st : List Slt} (h : Tg TBL SLOT w B p q st) (hb : Below w.heap.size w w') : Tg TBL SLOT w' B p q st := Tb.below h hb
theorem Tg.of {TBL SLOT : TypeId} {w : World} {B p q : Nat} {st : List Slt} {m : Nat} {r : Nat → Bool} (h : Tb TBL SLOT w B p q st m r) (hm : m = st.countP alv) (hr : r = rdyF st) : Tg TBL SLOT w B p q st := by
  subst hm hr; exact h
theorem Tg.size {TBL SLOT : TypeId} {w : World} {B p q : Nat} {st : List Slt} (h : Tg TBL SLOT w B p q st) : B ≤ w.heap.size := by
  have h1 := Tb.c1 h
  have := World.block_lt_of_cell? _ _ h1
  have := Tb.hp h
  dsimp only at *; omega

theorem Tg.base {TBL SLOT : TypeId} {w : World} {B B' p q : Nat} {st : List Slt} (h : Tg TBL SLOT w B p q st) (hB : B' ≤ B) : Tg TBL SLOT w B' p q st := by
  obtain ⟨ra, rcap, h1, h2⟩ := Tb.tbl h
  exact ⟨Nat.le_trans hB (Tb.hp h), Nat.le_trans hB (Tb.hq h), Tb.ne h, Tb.n1 h, Tb.n2 h, ⟨ra, rcap, h1, ownsRow_le h2 hB⟩, Tb.slots h, Tb.rb h⟩

theorem slotCells_two (st : List Slt) (i : Nat) (s : Slt) (hi : i < st.length) (hv : (st.getD i (0, false, undef)).2.2 = s.2.2) : slotCells (st.set i s) = ((slotCells st).set (i * 4) (.int .i64 (s.1 : Int))).set (i * 4 + 1) (.bool s.2.1) := by
  rw [slotCells_set st i hi]
  have e := slotCells_get st i 2 hi (by decide)
  rw [sc, hv] at e
  have e3 := slotCells_get st i 3 hi (by decide)
  rw [sc, hv] at e3
  have h2 : ((slotCells st).set (i * 4) (.int .i64 (s.1 : Int)) |>.set (i * 4 + 1) (.bool s.2.1)).set (i * 4 + 2) (a0 s.2.2) = ((slotCells st).set (i * 4) (.int .i64 (s.1 : Int))).set (i * 4 + 1) (.bool s.2.1) := by
    refine set_same ?_
    rw [List.getElem?_set_ne (by omega), List.getElem?_set_ne (by omega)]
    exact e.trans rfl
  rw [h2]
  refine set_same ?_
  rw [List.getElem?_set_ne (by omega), List.getElem?_set_ne (by omega)]
  exact e3.trans rfl
section
variable {TBL SLOT : TypeId} {w : World} {B p q : Nat} {st : List Slt} {m : Nat} {r : Nat → Bool}
theorem Tb.stored2 (h : Tb TBL SLOT w B p q st m r) (hs : 144 ≠ SLOT) {i : Nat} (hi : i < st.length) (s : Slt) (hv : (st.getD i (0, false, undef)).2.2 = s.2.2) :
    Tb TBL SLOT ((w.setCell ⟨q, i * 4, none⟩ (.int .i64 (s.1 : Int))).setCell ⟨q, i * 4 + 1, none⟩ (.bool s.2.1)) B p q (st.set i s) m r := by
  obtain ⟨ra, rcap, h1, h2⟩ := h.tbl
  have o1 := own_ne h2 h.slots hs
  have hq0 := h.slots
  have hne := h.ne
  refine ⟨h.hp, h.hq, h.ne, by simpa using h.n1, by simpa using h.n2, ⟨ra, rcap, ?_, ?_⟩, ?_, by simpa using h.rb⟩
  · rw [List.length_set, Below.heap_setCell _ _ _ _ hne, Below.heap_setCell _ _ _ _ hne]; exact h1
  · rw [List.length_set]
    exact ownsRow_setCell_other (ownsRow_setCell_other h2 (a := ⟨q, i * 4, none⟩) o1 _) (a := ⟨q, i * 4 + 1, none⟩) o1 _
  · rw [setCell_block (setCell_block hq0 _) _, slotCells_two st i s hi hv]; simp
end
/-- the pointer that find answers -/
def findP (q : Nat) (st : List Slt) (h : Int) : Option Addr := if findE st h = 0 then some ⟨q, (slotI h).toNat * 4, none⟩ else none
section
variable {q : Nat} {st : List Slt} {h : Int}
theorem find_none (hh : slotI h < 0 ∨ (st.length : Int) ≤ slotI h ∨ ((atH st h).1 : Int) < numI h) : none = findP q st h ∧ 4 = findE st h := by
  have e : findE st h = 4 := if_pos hh
  unfold findP
  rw [e]
  exact ⟨rfl, rfl⟩
theorem find_far {i : Nat} (hi : slotI h = i) (_hlt : i < st.length) (h3 : ((st.getD i (0, false, undef)).1 : Int) < numI h) : none = findP q st h ∧ 4 = findE st h :=
  find_none (.inr (.inr (by rw [atH_eq hi]; exact h3)))
theorem find_old {i : Nat} (hi : slotI h = i) (hlt : i < st.length) (h3 : ¬ ((st.getD i (0, false, undef)).1 : Int) < numI h) (h4 : numI h < ((st.getD i (0, false, undef)).1 : Int) ∨ (st.getD i (0, false, undef)).2.1 = false) : none = findP q st h ∧ 160 = findE st h := by
  have e : findE st h = 160 := by
    unfold findE
    rw [atH_eq hi, if_neg (by rw [hi]; omega), if_pos h4]
  unfold findP
  rw [e]
  exact ⟨rfl, rfl⟩
theorem find_yes {i : Nat} (hi : slotI h = i) (hlt : i < st.length) (h3 : ¬ ((st.getD i (0, false, undef)).1 : Int) < numI h) (h4 : ¬ numI h < ((st.getD i (0, false, undef)).1 : Int)) (h5 : (st.getD i (0, false, undef)).2.1 = true) : some ⟨q, i * 4, none⟩ = findP q st h ∧ 0 = findE st h := by
  have e : findE st h = 0 := by
    unfold findE
    rw [atH_eq hi, if_neg (by rw [hi]; omega), if_neg (by rw [h5]; rintro (h | h); exact h4 h; cases h)]
  unfold findP
  rw [e, hi]
  exact ⟨rfl, rfl⟩
end
end Go.Proofs.YtpaecmpiokkdnaaDoor.Thing

namespace Go.Proofs.YtpaecmpiokkdnaaDoor.Thing
open Go.RowKit Go.Sort Go.Joins
attribute [local go_sem] cell_grow frozen_grow size_grow

section
variable {n na nv : Nat} {ga aa va : Option Addr} {gc ac vc : Nat} {G : Nat → Int} {A : Nat → Bool}
set_option maxRecDepth 100000 in
set_option maxHeartbeats 3200000 in
theorem check_ok (w : World) (hG : SlF w ga n (zI G)) (hA : SlF w aa na (zB A)) :
    Calls Tryd.prog 69 #[.agg #[.slice ga n gc, .slice aa na ac, .slice va nv vc]] w fun e w' => e = .returned (.tuple #[.int .i64 (hcI n na nv G A), .int .i64 (hcE n na nv G A)]) ∧ Below w.heap.size w w' := by
  have hb0 := below_box0 w (.cells #[.slice ga n gc, .slice aa na ac, .slice va nv vc] 83)
  have HB := Lib.hid hb0
  by_cases h1 : n < 1 ∨ 1024 < n
  · have R := Lib.hid (hc_range (na := na) (nv := nv) (G := G) (A := A) h1)
    clear hb0
    by_cases h2 : n < 1
    all_goals
      have h3 : ¬ n < 1 → 1024 < n := fun h => by omega
      first
        | (have d1 : decide ((n : Int) < 1) = true := by rw [decide_eq_true_eq]; omega
           clear h1 h2 h3)
        | (have d1 : decide ((n : Int) < 1) = false := by rw [decide_eq_false_iff_not]; omega
           have d2 : decide (1024 < n) = true := by rw [decide_eq_true_eq]; exact h3 h2
           have d3 : decide ((1024 : Int) < (n : Int)) = true := by rw [decide_eq_true_eq]; have := h3 h2; omega
           clear h1 h2 h3)
      go_enter Tryd.func69, Tryd.ntmps69
      go_wp2
      go_ret2
      exact ⟨ret_two R.out.1 R.out.2, HB.out⟩
  · have d1 : decide ((n : Int) < 1) = false := by rw [decide_eq_false_iff_not]; omega
    have d2 : decide (1024 < n) = false := by rw [decide_eq_false_iff_not]; omega
    have d3 : decide ((1024 : Int) < (n : Int)) = false := by rw [decide_eq_false_iff_not]; omega
    have hn : n ≤ 1024 := by omega
    by_cases h2 : na ≠ n ∨ nv ≠ n
    · have R := Lib.hid (hc_form (G := G) (A := A) h1 h2)
      clear hb0
      by_cases h3 : na = n
      all_goals
        have h4 : na = n → nv ≠ n := fun h => by omega
        first
          | (have d4 : ((na : Int) != (n : Int)) = false := by rw [bne_eq_false_iff_eq]; omega
             have d5 : ((nv : Int) != (n : Int)) = true := by rw [bne_iff_ne]; have := h4 h3; omega
             clear h1 h2 h3 h4)
          | (have d4 : ((na : Int) != (n : Int)) = true := by rw [bne_iff_ne]; omega
             clear h1 h2 h3 h4)
        go_enter Tryd.func69, Tryd.ntmps69
        go_wp2
        go_ret2
        exact ⟨ret_two R.out.1 R.out.2, HB.out⟩
    · obtain rfl : na = n := by omega
      obtain rfl : nv = na := by omega
      have HN := Lib.hid h1
      have HG := Lib.hid (hG.below hb0)
      have HA := Lib.hid (hA.below hb0)
      clear hb0 h1 h2 hG hA
      go_enter Tryd.func69, Tryd.ntmps69
      go_wp2
      go_loop [33] (fun x => ∃ i : Nat, i ≤ nv ∧ x = .int .i64 i ∧ Hid (∀ j, j < i → badS G A j = false)) (fun x => nv - (intOf x).toNat)
      case atStart => exact ⟨0, Nat.zero_le _, rfl, Lib.hid (fun j h => by omega)⟩
      case round =>
        obtain ⟨i, hi, rfl, HP⟩ := hrel
        by_cases hlt : i < nv
        · obtain ⟨gb, go, rfl, cg⟩ := HG.out.at_ hlt
          obtain ⟨ab, ao, rfl, ca⟩ := HA.out.at_ hlt
          have hli : (i : Int) < (nv : Int) := by omega
          have hl0 : (0 : Int) ≤ (i : Int) := by omega
          have hlb : decide (i < nv) = true := by simpa using hlt
          obtain ⟨g, hg⟩ : ∃ g, G i = g := ⟨_, rfl⟩
          obtain ⟨al, hal⟩ : ∃ al, A i = al := ⟨_, rfl⟩
          have HBad : Hid (badS G A i = (decide (g < 0) || decide (65535 < g) || (decide (g = 0) && al))) := Lib.hid (by unfold badS; rw [hg, hal])
          dsimp only [zI, zB] at cg ca
          rw [hg] at cg
          rw [hal] at ca
          clear hg hal
          by_cases g1 : g < 0
          · have d4 : decide (g < 0) = true := by simpa using g1
            have R := Lib.hid (hc_bad HN.out hlt (by rw [HBad.out, d4]; rfl) HP.out)
            clear g1
            go_wp2
            go_ret2
            exact ⟨ret_two R.out.1 R.out.2, HB.out⟩
          · have d4 : decide (g < 0) = false := by simpa using g1
            by_cases g2 : 65535 < g
            · have d5 : decide (65535 < g) = true := by simpa using g2
              have R := Lib.hid (hc_bad HN.out hlt (by rw [HBad.out, d4, d5]; rfl) HP.out)
              clear g1 g2
              go_wp2
              go_ret2
              exact ⟨ret_two R.out.1 R.out.2, HB.out⟩
            · have d5 : decide (65535 < g) = false := by simpa using g2
              by_cases g3 : g = 0
              · have d6 : (g == 0) = true := by simpa using g3
                cases al with
                | true =>
                  have R := Lib.hid (hc_bad HN.out hlt (by rw [HBad.out, d4, d5, decide_eq_true g3]; rfl) HP.out)
                  clear g1 g2 g3
                  go_wp2
                  go_ret2
                  exact ⟨ret_two R.out.1 R.out.2, HB.out⟩
                | false =>
                  have R := Lib.hid (show badS G A i = false by rw [HBad.out, d4, d5]; simp)
                  clear g1 g2 g3
                  go_wp2
                  go_round
                  case rel => exact ⟨i + 1, by omega, by go_num, Lib.hid (fun j h => by
                    by_cases hj : j = i
                    · rw [hj]; exact R.out
                    · exact HP.out j (by omega))⟩
                  case measure => simp [intOf]; omega
              · have d6 : (g == 0) = false := by simpa using g3
                have R := Lib.hid (show badS G A i = false by rw [HBad.out, d4, d5, decide_eq_false g3]; rfl)
                clear g1 g2 g3
                go_wp2
                go_round
                case rel => exact ⟨i + 1, by omega, by go_num, Lib.hid (fun j h => by
                  by_cases hj : j = i
                  · rw [hj]; exact R.out
                  · exact HP.out j (by omega))⟩
                case measure => simp [intOf]; omega
        · have hlb : decide (i < nv) = false := by simpa using hlt
          have R := Lib.hid (hc_good HN.out (fun j h => HP.out j (by omega)))
          go_wp2
          go_ret2
          exact ⟨ret_two R.out.1 R.out.2, HB.out⟩
end
end Go.Proofs.YtpaecmpiokkdnaaDoor.Thing

namespace Go.Proofs.YtpaecmpiokkdnaaDoor.Thing
open Go.RowKit Go.Sort Go.Joins
attribute [local go_sem] cell_grow frozen_grow size_grow

abbrev TBL : TypeId := 124
abbrev SLOT : TypeId := 129
theorem u_slot : 144 ≠ SLOT := by decide
theorem u_tbl : 144 ≠ TBL := by decide

theorem made_ok {B p q : Nat} {st : List Slt} {m : Nat} {r : Nat → Bool} (w : World) (h : Tb 124 129 w B p q st m r) :
    Calls Tryd.prog 67 #[.pointer (some ⟨p, 0, none⟩)] w fun e w' => e = .returned (.bool true) ∧ w = w' := by
  have c0 := h.c0
  have n1 := h.n1
  have d1 : decide (0 < st.length) = true := by simp; omega
  go_enter Tryd.func67, Tryd.ntmps67
  go_wp2
  go_ret
  exact ⟨rfl, rfl⟩

theorem handle_ok {B p q : Nat} {st : List Slt} {m : Nat} {r : Nat → Bool} (i g : Nat) (w : World) (h : Tb 124 129 w B p q st m r) (hi : i < st.length) (hg : (st.getD i (0, false, undef)).1 = g) (hg2 : g ≤ 65535) :
    Calls Tryd.prog 68 #[.pointer (some ⟨p, 0, none⟩), .int .i64 i] w fun e w' => e = .returned (.int .i64 ((g : Int) * 65536 + i)) ∧ w = w' := by
  have c0 := h.c0
  have n2 := h.n2
  have s0 := h.s0 hi
  rw [hg] at s0
  have i0 : (0 : Int) ≤ (i : Int) := by omega
  have i1 : (i : Int) < (st.length : Int) := by omega
  clear hg h
  go_enter Tryd.func68, Tryd.ntmps68
  go_wp2
  go_ret
  exact ⟨rfl, rfl⟩

end Go.Proofs.YtpaecmpiokkdnaaDoor.Thing
