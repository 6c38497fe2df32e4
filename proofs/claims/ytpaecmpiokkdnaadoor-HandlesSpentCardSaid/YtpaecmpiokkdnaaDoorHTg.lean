/- Handles: tables whose parts agree with each other. -/
import Derived.Test.YtpaecmpiokkdnaaDoorHPlainE
import Derived.Test.YtpaecmpiokkdnaaDoorHState
namespace Go.Proofs.YtpaecmpiokkdnaaDoor
open Go.RowKit Go.Sort Go.Joins

def alv (s : Slt) : Bool := s.2.1
def rdyF (st : List Slt) : Nat → Bool := fun j => decide (j < st.length) && rdy (st.getD j (0, false, undef))
/-- a table: how many are alive, and which slots can give a handle, follow from the slots -/
def Tg (TBL SLOT : TypeId) (w : World) (B p q : Nat) (st : List Slt) : Prop := Tb TBL SLOT w B p q st (st.countP alv) (rdyF st)
theorem rdyF_set {st : List Slt} {i : Nat} (s : Slt) (hi : i < st.length) : filled (rdyF st) i (i + 1) (rdy s) = rdyF (st.set i s) := by
  funext j
  unfold filled rdyF
  rw [List.length_set]
  by_cases hj : i ≤ j ∧ j < i + 1
  · obtain rfl : j = i := by omega
    rw [if_pos hj]
    simp [hi]
  · rw [if_neg hj, List.getD_eq_getElem?_getD, List.getD_eq_getElem?_getD, List.getElem?_set_ne (by omega)]
theorem countP_set' (p : Slt → Bool) (d : Slt) : ∀ (st : List Slt) (i : Nat) (s : Slt), i < st.length → (st.set i s).countP p + (if p (st.getD i d) then 1 else 0) = st.countP p + (if p s then 1 else 0)
  | [], i, _, h => by simp at h
  | x :: l, 0, s, _ => by simp only [List.set_cons_zero, List.countP_cons, List.getD_cons_zero]; omega
  | x :: l, i + 1, s, h => by
    have := countP_set' p d l i s (by simpa using h)
    simp only [List.set_cons_succ, List.countP_cons, List.getD_cons_succ]
    omega
theorem Tg.n1 {TBL SLOT : TypeId} {w : World} {B p q : Nat} {st : List Slt} (h : Tg TBL SLOT w B p q st) : 1 ≤ st.length := Tb.n1 h
theorem Tg.n2 {TBL SLOT : TypeId} {w : World} {B p q : Nat} {st : List Slt} (h : Tg TBL SLOT w B p q st) : st.length ≤ 1024 := Tb.n2 h
theorem Tg.count_le {TBL SLOT : TypeId} {w : World} {B p q : Nat} {st : List Slt} (h : Tg TBL SLOT w B p q st) : st.countP alv ≤ 1024 := Nat.le_trans (List.countP_le_length) (Tb.n2 h)
theorem Tg.below {TBL SLOT : TypeId} {w w' : World} {B p q : Nat} {st : List Slt} (h : Tg TBL SLOT w B p q st) (hb : Below w.heap.size w w') : Tg TBL SLOT w' B p q st := Tb.below h hb
theorem Tg.of {TBL SLOT : TypeId} {w : World} {B p q : Nat} {st : List Slt} {m : Nat} {r : Nat → Bool} (h : Tb TBL SLOT w B p q st m r) (hm : m = st.countP alv) (hr : r = rdyF st) : Tg TBL SLOT w B p q st := by
  subst hm hr; exact h
theorem Tg.size {TBL SLOT : TypeId} {w : World} {B p q : Nat} {st : List Slt} (h : Tg TBL SLOT w B p q st) : B ≤ w.heap.size := by
  have h1 := Tb.c1 h
  have := World.block_lt_of_cell? _ _ h1
  have := Tb.hp h
  dsimp only at *; omega

theorem Tg.base {TBL SLOT : TypeId} {w : World} {B B' p q : Nat} {st : List Slt} (h : Tg TBL SLOT w B p q st) (hB : B' ≤ B) : Tg TBL SLOT w B' p q st := by
  obtain ⟨ra, rcap, h1, h2⟩ := Tb.tbl h
  exact ⟨Nat.le_trans hB (Tb.hp h), Nat.le_trans hB (Tb.hq h), Tb.ne h, Tb.n1 h, Tb.n2 h, ⟨ra, rcap, h1, ownsRow_le h2 hB⟩, Tb.slots h, Tb.rb h⟩

/-- the slots of a state, laid up to i -/
def stP (n : Nat) (G : Nat → Int) (A : Nat → Bool) (V : Nat → Value) (Z : Value) (i : Nat) : List Slt := (List.range n).map fun j => if j < i then ((G j).toNat, A j, if A j then V j else Z) else (0, false, Z)
section
variable {n : Nat} {G : Nat → Int} {A : Nat → Bool} {V : Nat → Value} {Z : Value} {i : Nat}
theorem stP_length : (stP n G A V Z i).length = n := by simp [stP]
theorem stP_get {d : Slt} {j : Nat} (hj : j < n) : (stP n G A V Z i).getD j d = if j < i then ((G j).toNat, A j, if A j then V j else Z) else (0, false, Z) := by
  simp [stP, List.getD_eq_getElem?_getD, hj]
theorem stP_zero : stP n G A V Z 0 = List.replicate n (0, false, Z) := by
  apply List.ext_getElem?
  intro j
  by_cases hj : j < n
  · simp [stP, hj]
  · simp [stP, hj]
theorem stP_succ (hi : i < n) : (stP n G A V Z i).set i ((G i).toNat, A i, if A i then V i else Z) = stP n G A V Z (i + 1) := by
  apply List.ext_getElem?
  intro j
  rw [List.getElem?_set, stP_length]
  by_cases hj : i = j
  · subst hj
    rw [if_pos rfl, if_pos hi]
    simp [stP, hi]
  · rw [if_neg hj]
    by_cases hjn : j < n
    · simp only [stP, List.getElem?_map, List.getElem?_range hjn, Option.map_some]
      by_cases h1 : j < i
      · rw [if_pos h1, if_pos (show j < i + 1 by omega)]
      · rw [if_neg h1, if_neg (show ¬ j < i + 1 by omega)]
    · simp [stP, hjn]
theorem rdyF_zero : (fun i => decide (i < n)) = rdyF (stP n G A V Z 0) := by
  funext j
  unfold rdyF
  rw [stP_length]
  by_cases hj : j < n
  · rw [stP_get hj]; simp [hj, rdy]
  · simp [hj]
theorem countP_zero : 0 = (stP n G A V Z 0).countP alv := by
  rw [stP_zero]
  have : (List.replicate n ((0, false, Z) : Slt)).countP alv = 0 := by rw [List.countP_eq_zero]; intro s hs; rw [(List.mem_replicate.1 hs).2]; simp [alv]
  rw [this]
end
theorem slotCells_two (st : List Slt) (i : Nat) (s : Slt) (hi : i < st.length) (hv : (st.getD i (0, false, undef)).2.2 = s.2.2) : slotCells (st.set i s) = ((slotCells st).set (i * 3) (.int .i64 (s.1 : Int))).set (i * 3 + 1) (.bool s.2.1) := by
  rw [slotCells_set st i hi]
  have e := slotCells_get st i 2 hi (by decide)
  rw [sc, hv] at e
  refine set_same ?_
  rw [List.getElem?_set_ne (by omega), List.getElem?_set_ne (by omega)]
  exact e.trans rfl
section
variable {TBL SLOT : TypeId} {w : World} {B p q : Nat} {st : List Slt} {m : Nat} {r : Nat → Bool}
theorem Tb.stored2 (h : Tb TBL SLOT w B p q st m r) (hs : 144 ≠ SLOT) {i : Nat} (hi : i < st.length) (s : Slt) (hv : (st.getD i (0, false, undef)).2.2 = s.2.2) :
    Tb TBL SLOT ((w.setCell ⟨q, i * 3, none⟩ (.int .i64 (s.1 : Int))).setCell ⟨q, i * 3 + 1, none⟩ (.bool s.2.1)) B p q (st.set i s) m r := by
  obtain ⟨ra, rcap, h1, h2⟩ := h.tbl
  have o1 := own_ne h2 h.slots hs
  have hq0 := h.slots
  have hne := h.ne
  refine ⟨h.hp, h.hq, h.ne, by simpa using h.n1, by simpa using h.n2, ⟨ra, rcap, ?_, ?_⟩, ?_, by simpa using h.rb⟩
  · rw [List.length_set, Below.heap_setCell _ _ _ _ hne, Below.heap_setCell _ _ _ _ hne]; exact h1
  · rw [List.length_set]
    exact ownsRow_setCell_other (ownsRow_setCell_other h2 (a := ⟨q, i * 3, none⟩) o1 _) (a := ⟨q, i * 3 + 1, none⟩) o1 _
  · rw [setCell_block (setCell_block hq0 _) _, slotCells_two st i s hi hv]; simp
end
end Go.Proofs.YtpaecmpiokkdnaaDoor
