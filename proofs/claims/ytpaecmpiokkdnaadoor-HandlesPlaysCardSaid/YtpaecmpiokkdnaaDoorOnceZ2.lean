/- Handles: what find answers. | Handles: a slot that is dropped; one whose value is set. | Handles: a state in memory; what Check answers; Check of the reference. | Handles: tables whose parts agree with each other. | Handles of type int: Check. | Handles of type int: made, handle, note. | Handles of type int: New. | Handles of type int: note. | Handles of type int: Load. | Handles of type int: Put. | Handles of type int: find. | Handles of type int: Get, Drop. | Handles of type int: the methods, of tables whose count and ready slots follow from the slots. | A range over a function whose iterator knows what the loop keeps: the loop's invariant I is told to the iterator, and the iterator tells the loop's body G of what it hands over. No program. | Handles of type int: All, the iterator, for a loop that keeps the slots that are still to come. | Handles of type int: Len, Set. | Handles of type string: made, handle, note. | Handles of type string: New. | Handles of type string: note. | Handles of type string: Put. | Handles of type string: find. | Handles of type string: Get, Drop. -/
import Derived.Test.YtpaecmpiokkdnaaDoorOnceZ1
import Derived.StillTailTactics
import Derived.Deep.RegionWith
import Derived.Deep.RegionHeld3
import Derived.RangeFuncNested
import Derived.RangeFuncBound
import Derived.RangeFuncCalls
import Derived.RangeFuncLeaves
import Derived.Shelf.Abstract
import Derived.Shelf.RegionOpen
import Derived.OwnWalkIn
import Derived.TacticsInMore
import Derived.LoopNIn
import Derived.LoopIn
namespace Go.Proofs.YtpaecmpiokkdnaaDoor
open Go.RowKit Go.Sort Go.Joins

/-- the slot of a handle -/
def atH (st : List Slt) (h : Int) : Slt := st.getD (slotI h).toNat (0, false, undef)
def findE (st : List Slt) (h : Int) : Int :=
  if slotI h < 0 ∨ (st.length : Int) ≤ slotI h ∨ ((atH st h).1 : Int) < numI h then 4
  else if numI h < ((atH st h).1 : Int) ∨ (atH st h).2.1 = false then 160 else 0
def findP (q : Nat) (st : List Slt) (h : Int) : Option Addr := if findE st h = 0 then some ⟨q, (slotI h).toNat * 3, none⟩ else none
theorem ret_ptr {a b : Option Addr} {c d : Int} (h : a = b ∧ c = d) : Ending.returned (.tuple #[.pointer a, .int .i64 c]) = .returned (.tuple #[.pointer b, .int .i64 d]) := by rw [h.1, h.2]
section
variable {q : Nat} {st : List Slt} {h : Int}
theorem find_none (hh : slotI h < 0 ∨ (st.length : Int) ≤ slotI h ∨ ((atH st h).1 : Int) < numI h) : none = findP q st h ∧ 4 = findE st h := by
  have e : findE st h = 4 := if_pos hh
  unfold findP
  rw [e]
  exact ⟨rfl, rfl⟩
theorem atH_eq {i : Nat} (hi : slotI h = i) : atH st h = st.getD i (0, false, undef) := by unfold atH; rw [hi]; rfl
theorem find_far {i : Nat} (hi : slotI h = i) (_hlt : i < st.length) (h3 : ((st.getD i (0, false, undef)).1 : Int) < numI h) : none = findP q st h ∧ 4 = findE st h :=
  find_none (.inr (.inr (by rw [atH_eq hi]; exact h3)))
theorem find_old {i : Nat} (hi : slotI h = i) (hlt : i < st.length) (h3 : ¬ ((st.getD i (0, false, undef)).1 : Int) < numI h) (h4 : numI h < ((st.getD i (0, false, undef)).1 : Int) ∨ (st.getD i (0, false, undef)).2.1 = false) : none = findP q st h ∧ 160 = findE st h := by
  have e : findE st h = 160 := by
    unfold findE
    rw [atH_eq hi, if_neg (by rw [hi]; omega), if_pos h4]
  unfold findP
  rw [e]
  exact ⟨rfl, rfl⟩
theorem find_yes {i : Nat} (hi : slotI h = i) (hlt : i < st.length) (h3 : ¬ ((st.getD i (0, false, undef)).1 : Int) < numI h) (h4 : ¬ numI h < ((st.getD i (0, false, undef)).1 : Int)) (h5 : (st.getD i (0, false, undef)).2.1 = true) : some ⟨q, i * 3, none⟩ = findP q st h ∧ 0 = findE st h := by
  have e : findE st h = 0 := by
    unfold findE
    rw [atH_eq hi, if_neg (by rw [hi]; omega), if_neg (by rw [h5]; rintro (h | h); exact h4 h; cases h)]
  unfold findP
  rw [e, hi]
  exact ⟨rfl, rfl⟩
end
end Go.Proofs.YtpaecmpiokkdnaaDoor

namespace Go.Proofs.YtpaecmpiokkdnaaDoor
open Go.RowKit Go.Sort Go.Joins

theorem set_same {α : Type} {l : List α} {k : Nat} {v : α} (h : l[k]? = some v) : l.set k v = l := by
  apply List.ext_getElem?
  intro j
  rw [List.getElem?_set]
  by_cases e : k = j
  · subst e
    rw [if_pos rfl, if_pos (List.getElem?_eq_some_iff.1 h).1, h]
  · rw [if_neg e]
theorem slotCells_drop (st : List Slt) (i g : Nat) (hi : i < st.length) (hg : (st.getD i (0, false, undef)).1 = g) (z : Value) :
    slotCells (st.set i (g, false, z)) = ((slotCells st).set (i * 3 + 2) z).set (i * 3 + 1) (.bool false) := by
  rw [slotCells_set st i hi]
  dsimp only
  have e := slotCells_get st i 0 hi (by decide)
  rw [Nat.add_zero, sc, hg] at e
  rw [set_same (e.trans rfl), List.set_comm _ _ (by omega)]
theorem slotCells_val (st : List Slt) (i : Nat) (hi : i < st.length) (v : Value) :
    slotCells (st.set i ((st.getD i (0, false, undef)).1, (st.getD i (0, false, undef)).2.1, v)) = (slotCells st).set (i * 3 + 2) v := by
  rw [slotCells_set st i hi]
  dsimp only
  have e := slotCells_get st i 0 hi (by decide)
  rw [Nat.add_zero, sc] at e
  have e2 := slotCells_get st i 1 hi (by decide)
  rw [sc] at e2
  rw [set_same (e.trans rfl), set_same (e2.trans rfl)]

section
variable {TBL SLOT : TypeId} {w w' : World} {B p q : Nat} {st : List Slt} {m : Nat} {r : Nat → Bool}
theorem Tb.dropped (h : Tb TBL SLOT w B p q st m r) (hs : 144 ≠ SLOT) (ht : 144 ≠ TBL) {i g : Nat} (hi : i < st.length) (hg : (st.getD i (0, false, undef)).1 = g) (z : Value) (m' : Int) (k : Nat) (hm : m' = k) :
    Tb TBL SLOT (((w.setCell ⟨q, i * 3 + 2, none⟩ z).setCell ⟨q, i * 3 + 1, none⟩ (.bool false)).setCell ⟨p, 3, none⟩ (.int .i64 m')) B p q (st.set i (g, false, z)) k r := by
  subst hm
  obtain ⟨ra, rcap, h1, h2⟩ := h.tbl
  have o1 := own_ne h2 h.slots hs
  have o2 := own_ne h2 h1 ht
  have hq0 := h.slots
  have hne := h.ne
  refine ⟨h.hp, h.hq, h.ne, by simpa using h.n1, by simpa using h.n2, ⟨ra, rcap, ?_, ?_⟩, ?_, by simpa using h.rb⟩
  · have e : (((w.setCell ⟨q, i * 3 + 2, none⟩ z).setCell ⟨q, i * 3 + 1, none⟩ (.bool false))).heap[p]? = some (.cells #[.slice (some ⟨q, 0, none⟩) st.length st.length, .int .i64 (st.length : Int), .slice ra ((st.length + 63) / 64) rcap, .int .i64 (m : Int)] TBL (0, 0)) := by
      rw [Below.heap_setCell _ _ _ _ hne, Below.heap_setCell _ _ _ _ hne]; exact h1
    rw [setCell_block e]; simp
  · rw [List.length_set]
    exact ownsRow_setCell_other (ownsRow_setCell_other (ownsRow_setCell_other h2 (a := ⟨q, i * 3 + 2, none⟩) o1 _) (a := ⟨q, i * 3 + 1, none⟩) o1 _) (a := ⟨p, 3, none⟩) o2 _
  · rw [Below.heap_setCell _ _ _ _ hne.symm, setCell_block (setCell_block hq0 _) _, slotCells_drop st i g hi hg]; simp
theorem Tb.valued (h : Tb TBL SLOT w B p q st m r) (hs : 144 ≠ SLOT) {i : Nat} (hi : i < st.length) (v : Value) :
    Tb TBL SLOT (w.setCell ⟨q, i * 3 + 2, none⟩ v) B p q (st.set i ((st.getD i (0, false, undef)).1, (st.getD i (0, false, undef)).2.1, v)) m r := by
  obtain ⟨ra, rcap, h1, h2⟩ := h.tbl
  have o1 := own_ne h2 h.slots hs
  have hne := h.ne
  refine ⟨h.hp, h.hq, h.ne, by simpa using h.n1, by simpa using h.n2, ⟨ra, rcap, ?_, ?_⟩, ?_, by simpa using h.rb⟩
  · rw [List.length_set, Below.heap_setCell _ _ _ _ hne]; exact h1
  · rw [List.length_set]
    exact ownsRow_setCell_other h2 (a := ⟨q, i * 3 + 2, none⟩) o1 _
  · rw [setCell_block h.slots _, slotCells_val st i hi v]; simp
end
end Go.Proofs.YtpaecmpiokkdnaaDoor

namespace Go.Proofs.YtpaecmpiokkdnaaDoor
open Go.RowKit Go.Sort Go.Joins
attribute [local go_sem] cell_grow frozen_grow size_grow

/-- a slice whose cells are known -/
def SlF (w : World) (a : Option Addr) (n : Nat) (f : Nat → Value) : Prop := n = 0 ∨ ∃ b o, a = some ⟨b, o, none⟩ ∧ ∀ j, j < n → w.cell? ⟨b, o + j, none⟩ = some (f j)
abbrev zI (G : Nat → Int) : Nat → Value := fun j => .int .i64 (G j)
abbrev zB (A : Nat → Bool) : Nat → Value := fun j => .bool (A j)
theorem SlF.below {w w' : World} {a : Option Addr} {n : Nat} {f : Nat → Value} (h : SlF w a n f) (hb : Below w.heap.size w w') : SlF w' a n f := by
  rcases h with h | ⟨b, o, ha, hc⟩
  · exact .inl h
  · exact .inr ⟨b, o, ha, fun j hj => (hb.cell (p := ⟨b, o + j, none⟩) (World.block_lt_of_cell? _ _ (hc j hj))).trans (hc j hj)⟩
theorem SlF.alloc {w : World} {a : Option Addr} {n : Nat} {f : Nat → Value} (h : SlF w a n f) (o : Obj) : SlF (w.alloc o) a n f := h.below (below_box0 w o)
theorem SlF.at_ {w : World} {a : Option Addr} {n : Nat} {f : Nat → Value} (h : SlF w a n f) {j : Nat} (hj : j < n) : ∃ b o, a = some ⟨b, o, none⟩ ∧ w.cell? ⟨b, o + j, none⟩ = some (f j) := by
  obtain ⟨b, o, ha, hc⟩ := h.resolve_left (by omega)
  exact ⟨b, o, ha, hc j hj⟩

theorem SlF.of_own {w : World} {base n : Nat} {e : TypeId} {a : Option Addr} {cap : Nat} {xs : List Value} {f : Nat → Value} (h : w.ownsRow base e 1 (.slice a n cap) n xs) (hf : ∀ j, j < n → xs[j]? = some (f j)) : SlF w a n f := by
  rcases Nat.eq_zero_or_pos n with h0 | hp
  · exact .inl h0
  · obtain ⟨g, cap', he⟩ := ownsRow_form h hp
    simp only [Value.slice.injEq] at he
    obtain ⟨rfl, _, rfl⟩ := he
    refine .inr ⟨g, 0, rfl, fun j hj => ?_⟩
    have hl := h.1
    have := hf j hj
    rw [Nat.zero_add, h.cellAt j (by omega), this]
theorem SlF.congr {w : World} {a : Option Addr} {n : Nat} {f g : Nat → Value} (h : SlF w a n f) (hf : ∀ j, j < n → f j = g j) : SlF w a n g := by
  rcases h with h | ⟨b, o, ha, hc⟩
  · exact .inl h
  · exact .inr ⟨b, o, ha, fun j hj => by rw [hc j hj, hf j hj]⟩
/-- the parts of a list of slots -/
def gF (st : List Slt) : Nat → Int := fun j => ((st.getD j (0, false, undef)).1 : Int)
def aF (st : List Slt) : Nat → Bool := fun j => (st.getD j (0, false, undef)).2.1
def vF (st : List Slt) : Nat → Value := fun j => (st.getD j (0, false, undef)).2.2
/-- three slices that read as a list of slots -/
structure RA (w : World) (st : List Slt) (ga aa va : Option Addr) : Prop where
  g : SlF w ga st.length (zI (gF st))
  a : SlF w aa st.length (zB (aF st))
  v : SlF w va st.length (vF st)
theorem RA.below {w w' : World} {st : List Slt} {ga aa va : Option Addr} (h : RA w st ga aa va) (hb : Below w.heap.size w w') : RA w' st ga aa va := ⟨h.g.below hb, h.a.below hb, h.v.below hb⟩
/-- a state that reads as a list of slots -/
def RS (w : World) (x : Value) (st : List Slt) : Prop := ∃ ga gc aa ac va vc, x = .agg #[.slice ga st.length gc, .slice aa st.length ac, .slice va st.length vc] ∧ RA w st ga aa va
theorem RS.below {w w' : World} {x : Value} {st : List Slt} (h : RS w x st) (hb : Below w.heap.size w w') : RS w' x st := by
  obtain ⟨ga, gc, aa, ac, va, vc, e, h⟩ := h
  exact ⟨ga, gc, aa, ac, va, vc, e, h.below hb⟩

/-- is slot i badly formed? -/
def badS (G : Nat → Int) (A : Nat → Bool) (i : Nat) : Bool := decide (G i < 0) || decide (65535 < G i) || (decide (G i = 0) && A i)
def hcE (n na nv : Nat) (G : Nat → Int) (A : Nat → Bool) : Int := if n < 1 ∨ 1024 < n then 7 else if na ≠ n ∨ nv ≠ n then 6 else if nxt (badS G A) 0 n < n then 6 else 0
def hcI (n na nv : Nat) (G : Nat → Int) (A : Nat → Bool) : Int := if n < 1 ∨ 1024 < n then 0 else if na ≠ n ∨ nv ≠ n then 0 else if nxt (badS G A) 0 n < n then ((nxt (badS G A) 0 n : Nat) : Int) else 0
theorem hc_range {n na nv : Nat} {G : Nat → Int} {A : Nat → Bool} (h : n < 1 ∨ 1024 < n) : 0 = hcI n na nv G A ∧ 7 = hcE n na nv G A := by
  unfold hcI hcE; rw [if_pos h, if_pos h]; exact ⟨rfl, rfl⟩
theorem hc_form {n na nv : Nat} {G : Nat → Int} {A : Nat → Bool} (h : ¬ (n < 1 ∨ 1024 < n)) (h2 : na ≠ n ∨ nv ≠ n) : 0 = hcI n na nv G A ∧ 6 = hcE n na nv G A := by
  unfold hcI hcE; rw [if_neg h, if_neg h, if_pos h2, if_pos h2]; exact ⟨rfl, rfl⟩
theorem hc_bad {n i : Nat} {G : Nat → Int} {A : Nat → Bool} (h : ¬ (n < 1 ∨ 1024 < n)) (hi : i < n) (hb : badS G A i = true) (hp : ∀ j, j < i → badS G A j = false) : (i : Int) = hcI n n n G A ∧ 6 = hcE n n n G A := by
  have e : nxt (badS G A) 0 n = i := nxt_eq (Nat.zero_le _) (Nat.zero_le _) (by omega) (fun j _ hj => hp j hj) (fun _ => hb)
  unfold hcI hcE; rw [if_neg h, if_neg h, if_neg (by simp : ¬ (n ≠ n ∨ n ≠ n)), if_neg (by simp : ¬ (n ≠ n ∨ n ≠ n)), e, if_pos hi, if_pos hi]; exact ⟨rfl, rfl⟩
theorem hc_good {n : Nat} {G : Nat → Int} {A : Nat → Bool} (h : ¬ (n < 1 ∨ 1024 < n)) (hp : ∀ j, j < n → badS G A j = false) : 0 = hcI n n n G A ∧ 0 = hcE n n n G A := by
  have e : nxt (badS G A) 0 n = n := nxt_eq (Nat.zero_le _) (Nat.zero_le _) (Nat.le_refl _) (fun j _ hj => hp j hj) (fun h => by omega)
  unfold hcI hcE; rw [if_neg h, if_neg h, if_neg (by simp : ¬ (n ≠ n ∨ n ≠ n)), if_neg (by simp : ¬ (n ≠ n ∨ n ≠ n)), e, if_neg (Nat.lt_irrefl n), if_neg (Nat.lt_irrefl n)]; exact ⟨rfl, rfl⟩
theorem hcE_zero {n na nv : Nat} {G : Nat → Int} {A : Nat → Bool} (h : hcE n na nv G A = 0) : 1 ≤ n ∧ n ≤ 1024 ∧ na = n ∧ nv = n ∧ ∀ j, j < n → badS G A j = false := by
  unfold hcE at h
  by_cases h1 : n < 1 ∨ 1024 < n
  · rw [if_pos h1] at h; cases h
  · rw [if_neg h1] at h
    by_cases h2 : na ≠ n ∨ nv ≠ n
    · rw [if_pos h2] at h; cases h
    · rw [if_neg h2] at h
      by_cases h3 : nxt (badS G A) 0 n < n
      · rw [if_pos h3] at h; cases h
      · obtain ⟨_, s2, s3, _⟩ := nxt_spec (p := badS G A) (a := 0) (n := n) (Nat.zero_le _)
        exact ⟨by omega, by omega, by omega, by omega, fun j hj => s3 j (Nat.zero_le _) (by omega)⟩
theorem badS_ok {G : Nat → Int} {A : Nat → Bool} {i : Nat} (h : badS G A i = false) : 0 ≤ G i ∧ G i ≤ 65535 ∧ (A i = true → G i ≠ 0) := by
  unfold badS at h
  simp only [Bool.or_eq_false_iff, decide_eq_false_iff_not, Bool.and_eq_false_iff] at h
  refine ⟨by omega, by omega, fun ha e => ?_⟩
  rcases h.2 with h2 | h2
  · exact h2 e
  · rw [ha] at h2; cases h2

section
variable {n na nv : Nat} {ga aa va : Option Addr} {gc ac vc : Nat} {G : Nat → Int} {A : Nat → Bool}
set_option maxRecDepth 100000 in
set_option maxHeartbeats 3200000 in
theorem rcheck_ok (w : World) (hG : SlF w ga n (zI G)) (hA : SlF w aa na (zB A)) :
    Calls Tryd.prog 17 #[.agg #[.slice ga n gc, .slice aa na ac, .slice va nv vc]] w fun e w' => e = .returned (.tuple #[.int .i64 (hcI n na nv G A), .int .i64 (hcE n na nv G A)]) ∧ Below w.heap.size w w' := by
  have hb0 := below_box0 w (.cells #[.slice ga n gc, .slice aa na ac, .slice va nv vc] 35)
  have HB := Lib.hid hb0
  by_cases h1 : n < 1 ∨ 1024 < n
  · have R := Lib.hid (hc_range (na := na) (nv := nv) (G := G) (A := A) h1)
    clear hb0
    by_cases h2 : n < 1
    all_goals
      have h3 : ¬ n < 1 → 1024 < n := fun h => by omega
      first
        | (have d1 : decide ((n : Int) < 1) = true := by rw [decide_eq_true_eq]; omega
           clear h1 h2 h3)
        | (have d1 : decide ((n : Int) < 1) = false := by rw [decide_eq_false_iff_not]; omega
           have d2 : decide (1024 < n) = true := by rw [decide_eq_true_eq]; exact h3 h2
           have d3 : decide ((1024 : Int) < (n : Int)) = true := by rw [decide_eq_true_eq]; have := h3 h2; omega
           clear h1 h2 h3)
      go_enter Tryd.func17, Tryd.ntmps17
      go_wp2
      go_ret2
      exact ⟨ret_two R.out.1 R.out.2, HB.out⟩
  · have d1 : decide ((n : Int) < 1) = false := by rw [decide_eq_false_iff_not]; omega
    have d2 : decide (1024 < n) = false := by rw [decide_eq_false_iff_not]; omega
    have d3 : decide ((1024 : Int) < (n : Int)) = false := by rw [decide_eq_false_iff_not]; omega
    have hn : n ≤ 1024 := by omega
    by_cases h2 : na ≠ n ∨ nv ≠ n
    · have R := Lib.hid (hc_form (G := G) (A := A) h1 h2)
      clear hb0
      by_cases h3 : na = n
      all_goals
        have h4 : na = n → nv ≠ n := fun h => by omega
        first
          | (have d4 : ((na : Int) != (n : Int)) = false := by rw [bne_eq_false_iff_eq]; omega
             have d5 : ((nv : Int) != (n : Int)) = true := by rw [bne_iff_ne]; have := h4 h3; omega
             clear h1 h2 h3 h4)
          | (have d4 : ((na : Int) != (n : Int)) = true := by rw [bne_iff_ne]; omega
             clear h1 h2 h3 h4)
        go_enter Tryd.func17, Tryd.ntmps17
        go_wp2
        go_ret2
        exact ⟨ret_two R.out.1 R.out.2, HB.out⟩
    · obtain rfl : na = n := by omega
      obtain rfl : nv = na := by omega
      have HN := Lib.hid h1
      have HG := Lib.hid (hG.below hb0)
      have HA := Lib.hid (hA.below hb0)
      clear hb0 h1 h2 hG hA
      go_enter Tryd.func17, Tryd.ntmps17
      go_wp2
      go_loop [5] (fun x => ∃ i : Nat, i ≤ nv ∧ x = .int .i64 i ∧ Hid (∀ j, j < i → badS G A j = false)) (fun x => nv - (intOf x).toNat)
      case atStart => exact ⟨0, Nat.zero_le _, rfl, Lib.hid (fun j h => by omega)⟩
      case round =>
        obtain ⟨i, hi, rfl, HP⟩ := hrel
        by_cases hlt : i < nv
        · obtain ⟨gb, go, rfl, cg⟩ := HG.out.at_ hlt
          obtain ⟨ab, ao, rfl, ca⟩ := HA.out.at_ hlt
          have hli : (i : Int) < (nv : Int) := by omega
          have hl0 : (0 : Int) ≤ (i : Int) := by omega
          have hlb : decide (i < nv) = true := by simpa using hlt
          obtain ⟨g, hg⟩ : ∃ g, G i = g := ⟨_, rfl⟩
          obtain ⟨al, hal⟩ : ∃ al, A i = al := ⟨_, rfl⟩
          have HBad : Hid (badS G A i = (decide (g < 0) || decide (65535 < g) || (decide (g = 0) && al))) := Lib.hid (by unfold badS; rw [hg, hal])
          dsimp only [zI, zB] at cg ca
          rw [hg] at cg
          rw [hal] at ca
          clear hg hal
          by_cases g1 : g < 0
          · have d4 : decide (g < 0) = true := by simpa using g1
            have R := Lib.hid (hc_bad HN.out hlt (by rw [HBad.out, d4]; rfl) HP.out)
            clear g1
            go_wp2
            go_ret2
            exact ⟨ret_two R.out.1 R.out.2, HB.out⟩
          · have d4 : decide (g < 0) = false := by simpa using g1
            by_cases g2 : 65535 < g
            · have d5 : decide (65535 < g) = true := by simpa using g2
              have R := Lib.hid (hc_bad HN.out hlt (by rw [HBad.out, d4, d5]; rfl) HP.out)
              clear g1 g2
              go_wp2
              go_ret2
              exact ⟨ret_two R.out.1 R.out.2, HB.out⟩
            · have d5 : decide (65535 < g) = false := by simpa using g2
              cases al with
              | true =>
                by_cases g3 : g = 0
                · have d6 : (g == 0) = true := by simpa using g3
                  have R := Lib.hid (hc_bad HN.out hlt (by rw [HBad.out, d4, d5, decide_eq_true g3]; rfl) HP.out)
                  clear g1 g2 g3
                  go_wp2
                  go_ret2
                  exact ⟨ret_two R.out.1 R.out.2, HB.out⟩
                · have d6 : (g == 0) = false := by simpa using g3
                  have R := Lib.hid (show badS G A i = false by rw [HBad.out, d4, d5, decide_eq_false g3]; rfl)
                  clear g1 g2 g3
                  go_wp2
                  go_round
                  case rel => exact ⟨i + 1, by omega, by go_num, Lib.hid (fun j h => by
                    by_cases hj : j = i
                    · rw [hj]; exact R.out
                    · exact HP.out j (by omega))⟩
                  case measure => simp [intOf]; omega
              | false =>
                have R := Lib.hid (show badS G A i = false by rw [HBad.out, d4, d5]; simp)
                clear g1 g2
                go_wp2
                go_round
                case rel => exact ⟨i + 1, by omega, by go_num, Lib.hid (fun j h => by
                  by_cases hj : j = i
                  · rw [hj]; exact R.out
                  · exact HP.out j (by omega))⟩
                case measure => simp [intOf]; omega
        · have hlb : decide (i < nv) = false := by simpa using hlt
          have R := Lib.hid (hc_good HN.out (fun j h => HP.out j (by omega)))
          go_wp2
          go_ret2
          exact ⟨ret_two R.out.1 R.out.2, HB.out⟩
end
end Go.Proofs.YtpaecmpiokkdnaaDoor

namespace Go.Proofs.YtpaecmpiokkdnaaDoor
open Go.RowKit Go.Sort Go.Joins

def alv (s : Slt) : Bool := s.2.1
def rdyF (st : List Slt) : Nat → Bool := fun j => decide (j < st.length) && rdy (st.getD j (0, false, undef))
/-- a table: how many are alive, and which slots can give a handle, follow from the slots -/
def Tg (TBL SLOT : TypeId) (w : World) (B p q : Nat) (st : List Slt) : Prop := Tb TBL SLOT w B p q st (st.countP alv) (rdyF st)
theorem rdyF_set {st : List Slt} {i : Nat} (s : Slt) (hi : i < st.length) : filled (rdyF st) i (i + 1) (rdy s) = rdyF (st.set i s) := by
  funext j
  unfold filled rdyF
  rw [List.length_set]
  by_cases hj : i ≤ j ∧ j < i + 1
  · obtain rfl : j = i := by omega
    rw [if_pos hj]
    simp [hi]
  · rw [if_neg hj, List.getD_eq_getElem?_getD, List.getD_eq_getElem?_getD, List.getElem?_set_ne (by omega)]
theorem countP_set' (p : Slt → Bool) (d : Slt) : ∀ (st : List Slt) (i : Nat) (s : Slt), i < st.length → (st.set i s).countP p + (if p (st.getD i d) then 1 else 0) = st.countP p + (if p s then 1 else 0)
  | [], i, _, h => by simp at h
  | x :: l, 0, s, _ => by simp only [List.set_cons_zero, List.countP_cons, List.getD_cons_zero]; omega
  | x :: l, i + 1, s, h => by
    have := countP_set' p d l i s (by simpa using h)
    simp only [List.set_cons_succ, List.countP_cons, List.getD_cons_succ]
    omega
theorem Tg.n1 {TBL SLOT : TypeId} {w : World} {B p q : Nat} {st : List Slt} (h : Tg TBL SLOT w B p q st) : 1 ≤ st.length := Tb.n1 h
theorem Tg.n2 {TBL SLOT : TypeId} {w : World} {B p q : Nat} {st : List Slt} (h : Tg TBL SLOT w B p q st) : st.length ≤ 1024 := Tb.n2 h
theorem Tg.count_le {TBL SLOT : TypeId} {w : World} {B p q : Nat} {st : List Slt} (h : Tg TBL SLOT w B p q st) : st.countP alv ≤ 1024 := Nat.le_trans (List.countP_le_length) (Tb.n2 h)
theorem Tg.below {TBL SLOT : TypeId} {w w' : World} {B p q : Nat} {st : List Slt} (h : Tg TBL SLOT w B p q st) (hb : Below w.heap.size w w') : Tg TBL SLOT w' B p q st := Tb.below h hb
theorem Tg.of {TBL SLOT : TypeId} {w : World} {B p q : Nat} {st : List Slt} {m : Nat} {r : Nat → Bool} (h : Tb TBL SLOT w B p q st m r) (hm : m = st.countP alv) (hr : r = rdyF st) : Tg TBL SLOT w B p q st := by
  subst hm hr; exact h
theorem Tg.size {TBL SLOT : TypeId} {w : World} {B p q : Nat} {st : List Slt} (h : Tg TBL SLOT w B p q st) : B ≤ w.heap.size := by
  have h1 := Tb.c1 h
  have := World.block_lt_of_cell? _ _ h1
  have := Tb.hp h
  dsimp only at *; omega

theorem Tg.base {TBL SLOT : TypeId} {w : World} {B B' p q : Nat} {st : List Slt} (h : Tg TBL SLOT w B p q st) (hB : B' ≤ B) : Tg TBL SLOT w B' p q st := by
  obtain ⟨ra, rcap, h1, h2⟩ := Tb.tbl h
  exact ⟨Nat.le_trans hB (Tb.hp h), Nat.le_trans hB (Tb.hq h), Tb.ne h, Tb.n1 h, Tb.n2 h, ⟨ra, rcap, h1, ownsRow_le h2 hB⟩, Tb.slots h, Tb.rb h⟩

/-- the slots of a state, laid up to i -/
def stP (n : Nat) (G : Nat → Int) (A : Nat → Bool) (V : Nat → Value) (Z : Value) (i : Nat) : List Slt := (List.range n).map fun j => if j < i then ((G j).toNat, A j, if A j then V j else Z) else (0, false, Z)
section
variable {n : Nat} {G : Nat → Int} {A : Nat → Bool} {V : Nat → Value} {Z : Value} {i : Nat}
theorem stP_length : (stP n G A V Z i).length = n := by simp [stP]
theorem stP_get {d : Slt} {j : Nat} (hj : j < n) : (stP n G A V Z i).getD j d = if j < i then ((G j).toNat, A j, if A j then V j else Z) else (0, false, Z) := by
  simp [stP, List.getD_eq_getElem?_getD, hj]
theorem stP_zero : stP n G A V Z 0 = List.replicate n (0, false, Z) := by
  apply List.ext_getElem?
  intro j
  by_cases hj : j < n
  · simp [stP, hj]
  · simp [stP, hj]
theorem stP_succ (hi : i < n) : (stP n G A V Z i).set i ((G i).toNat, A i, if A i then V i else Z) = stP n G A V Z (i + 1) := by
  apply List.ext_getElem?
  intro j
  rw [List.getElem?_set, stP_length]
  by_cases hj : i = j
  · subst hj
    rw [if_pos rfl, if_pos hi]
    simp [stP, hi]
  · rw [if_neg hj]
    by_cases hjn : j < n
    · simp only [stP, List.getElem?_map, List.getElem?_range hjn, Option.map_some]
      by_cases h1 : j < i
      · rw [if_pos h1, if_pos (show j < i + 1 by omega)]
      · rw [if_neg h1, if_neg (show ¬ j < i + 1 by omega)]
    · simp [stP, hjn]
theorem rdyF_zero : (fun i => decide (i < n)) = rdyF (stP n G A V Z 0) := by
  funext j
  unfold rdyF
  rw [stP_length]
  by_cases hj : j < n
  · rw [stP_get hj]; simp [hj, rdy]
  · simp [hj]
theorem countP_zero : 0 = (stP n G A V Z 0).countP alv := by
  rw [stP_zero]
  have : (List.replicate n ((0, false, Z) : Slt)).countP alv = 0 := by rw [List.countP_eq_zero]; intro s hs; rw [(List.mem_replicate.1 hs).2]; simp [alv]
  rw [this]
end
theorem slotCells_two (st : List Slt) (i : Nat) (s : Slt) (hi : i < st.length) (hv : (st.getD i (0, false, undef)).2.2 = s.2.2) : slotCells (st.set i s) = ((slotCells st).set (i * 3) (.int .i64 (s.1 : Int))).set (i * 3 + 1) (.bool s.2.1) := by
  rw [slotCells_set st i hi]
  have e := slotCells_get st i 2 hi (by decide)
  rw [sc, hv] at e
  refine set_same ?_
  rw [List.getElem?_set_ne (by omega), List.getElem?_set_ne (by omega)]
  exact e.trans rfl
section
variable {TBL SLOT : TypeId} {w : World} {B p q : Nat} {st : List Slt} {m : Nat} {r : Nat → Bool}
theorem Tb.stored2 (h : Tb TBL SLOT w B p q st m r) (hs : 144 ≠ SLOT) {i : Nat} (hi : i < st.length) (s : Slt) (hv : (st.getD i (0, false, undef)).2.2 = s.2.2) :
    Tb TBL SLOT ((w.setCell ⟨q, i * 3, none⟩ (.int .i64 (s.1 : Int))).setCell ⟨q, i * 3 + 1, none⟩ (.bool s.2.1)) B p q (st.set i s) m r := by
  obtain ⟨ra, rcap, h1, h2⟩ := h.tbl
  have o1 := own_ne h2 h.slots hs
  have hq0 := h.slots
  have hne := h.ne
  refine ⟨h.hp, h.hq, h.ne, by simpa using h.n1, by simpa using h.n2, ⟨ra, rcap, ?_, ?_⟩, ?_, by simpa using h.rb⟩
  · rw [List.length_set, Below.heap_setCell _ _ _ _ hne, Below.heap_setCell _ _ _ _ hne]; exact h1
  · rw [List.length_set]
    exact ownsRow_setCell_other (ownsRow_setCell_other h2 (a := ⟨q, i * 3, none⟩) o1 _) (a := ⟨q, i * 3 + 1, none⟩) o1 _
  · rw [setCell_block (setCell_block hq0 _) _, slotCells_two st i s hi hv]; simp
end
end Go.Proofs.YtpaecmpiokkdnaaDoor

namespace Go.Proofs.YtpaecmpiokkdnaaDoor.Int
open Go.RowKit Go.Sort Go.Joins
attribute [local go_sem] cell_grow frozen_grow size_grow

section
variable {n na nv : Nat} {ga aa va : Option Addr} {gc ac vc : Nat} {G : Nat → Int} {A : Nat → Bool}
set_option maxRecDepth 100000 in
set_option maxHeartbeats 3200000 in
theorem check_ok (w : World) (hG : SlF w ga n (zI G)) (hA : SlF w aa na (zB A)) :
    Calls Tryd.prog 16 #[.agg #[.slice ga n gc, .slice aa na ac, .slice va nv vc]] w fun e w' => e = .returned (.tuple #[.int .i64 (hcI n na nv G A), .int .i64 (hcE n na nv G A)]) ∧ Below w.heap.size w w' := by
  have hb0 := below_box0 w (.cells #[.slice ga n gc, .slice aa na ac, .slice va nv vc] 35)
  have HB := Lib.hid hb0
  by_cases h1 : n < 1 ∨ 1024 < n
  · have R := Lib.hid (hc_range (na := na) (nv := nv) (G := G) (A := A) h1)
    clear hb0
    by_cases h2 : n < 1
    all_goals
      have h3 : ¬ n < 1 → 1024 < n := fun h => by omega
      first
        | (have d1 : decide ((n : Int) < 1) = true := by rw [decide_eq_true_eq]; omega
           clear h1 h2 h3)
        | (have d1 : decide ((n : Int) < 1) = false := by rw [decide_eq_false_iff_not]; omega
           have d2 : decide (1024 < n) = true := by rw [decide_eq_true_eq]; exact h3 h2
           have d3 : decide ((1024 : Int) < (n : Int)) = true := by rw [decide_eq_true_eq]; have := h3 h2; omega
           clear h1 h2 h3)
      go_enter Tryd.func16, Tryd.ntmps16
      go_wp2
      go_ret2
      exact ⟨ret_two R.out.1 R.out.2, HB.out⟩
  · have d1 : decide ((n : Int) < 1) = false := by rw [decide_eq_false_iff_not]; omega
    have d2 : decide (1024 < n) = false := by rw [decide_eq_false_iff_not]; omega
    have d3 : decide ((1024 : Int) < (n : Int)) = false := by rw [decide_eq_false_iff_not]; omega
    have hn : n ≤ 1024 := by omega
    by_cases h2 : na ≠ n ∨ nv ≠ n
    · have R := Lib.hid (hc_form (G := G) (A := A) h1 h2)
      clear hb0
      by_cases h3 : na = n
      all_goals
        have h4 : na = n → nv ≠ n := fun h => by omega
        first
          | (have d4 : ((na : Int) != (n : Int)) = false := by rw [bne_eq_false_iff_eq]; omega
             have d5 : ((nv : Int) != (n : Int)) = true := by rw [bne_iff_ne]; have := h4 h3; omega
             clear h1 h2 h3 h4)
          | (have d4 : ((na : Int) != (n : Int)) = true := by rw [bne_iff_ne]; omega
             clear h1 h2 h3 h4)
        go_enter Tryd.func16, Tryd.ntmps16
        go_wp2
        go_ret2
        exact ⟨ret_two R.out.1 R.out.2, HB.out⟩
    · obtain rfl : na = n := by omega
      obtain rfl : nv = na := by omega
      have HN := Lib.hid h1
      have HG := Lib.hid (hG.below hb0)
      have HA := Lib.hid (hA.below hb0)
      clear hb0 h1 h2 hG hA
      go_enter Tryd.func16, Tryd.ntmps16
      go_wp2
      go_loop [33] (fun x => ∃ i : Nat, i ≤ nv ∧ x = .int .i64 i ∧ Hid (∀ j, j < i → badS G A j = false)) (fun x => nv - (intOf x).toNat)
      case atStart => exact ⟨0, Nat.zero_le _, rfl, Lib.hid (fun j h => by omega)⟩
      case round =>
        obtain ⟨i, hi, rfl, HP⟩ := hrel
        by_cases hlt : i < nv
        · obtain ⟨gb, go, rfl, cg⟩ := HG.out.at_ hlt
          obtain ⟨ab, ao, rfl, ca⟩ := HA.out.at_ hlt
          have hli : (i : Int) < (nv : Int) := by omega
          have hl0 : (0 : Int) ≤ (i : Int) := by omega
          have hlb : decide (i < nv) = true := by simpa using hlt
          obtain ⟨g, hg⟩ : ∃ g, G i = g := ⟨_, rfl⟩
          obtain ⟨al, hal⟩ : ∃ al, A i = al := ⟨_, rfl⟩
          have HBad : Hid (badS G A i = (decide (g < 0) || decide (65535 < g) || (decide (g = 0) && al))) := Lib.hid (by unfold badS; rw [hg, hal])
          dsimp only [zI, zB] at cg ca
          rw [hg] at cg
          rw [hal] at ca
          clear hg hal
          by_cases g1 : g < 0
          · have d4 : decide (g < 0) = true := by simpa using g1
            have R := Lib.hid (hc_bad HN.out hlt (by rw [HBad.out, d4]; rfl) HP.out)
            clear g1
            go_wp2
            go_ret2
            exact ⟨ret_two R.out.1 R.out.2, HB.out⟩
          · have d4 : decide (g < 0) = false := by simpa using g1
            by_cases g2 : 65535 < g
            · have d5 : decide (65535 < g) = true := by simpa using g2
              have R := Lib.hid (hc_bad HN.out hlt (by rw [HBad.out, d4, d5]; rfl) HP.out)
              clear g1 g2
              go_wp2
              go_ret2
              exact ⟨ret_two R.out.1 R.out.2, HB.out⟩
            · have d5 : decide (65535 < g) = false := by simpa using g2
              by_cases g3 : g = 0
              · have d6 : (g == 0) = true := by simpa using g3
                cases al with
                | true =>
                  have R := Lib.hid (hc_bad HN.out hlt (by rw [HBad.out, d4, d5, decide_eq_true g3]; rfl) HP.out)
                  clear g1 g2 g3
                  go_wp2
                  go_ret2
                  exact ⟨ret_two R.out.1 R.out.2, HB.out⟩
                | false =>
                  have R := Lib.hid (show badS G A i = false by rw [HBad.out, d4, d5]; simp)
                  clear g1 g2 g3
                  go_wp2
                  go_round
                  case rel => exact ⟨i + 1, by omega, by go_num, Lib.hid (fun j h => by
                    by_cases hj : j = i
                    · rw [hj]; exact R.out
                    · exact HP.out j (by omega))⟩
                  case measure => simp [intOf]; omega
              · have d6 : (g == 0) = false := by simpa using g3
                have R := Lib.hid (show badS G A i = false by rw [HBad.out, d4, d5, decide_eq_false g3]; rfl)
                clear g1 g2 g3
                go_wp2
                go_round
                case rel => exact ⟨i + 1, by omega, by go_num, Lib.hid (fun j h => by
                  by_cases hj : j = i
                  · rw [hj]; exact R.out
                  · exact HP.out j (by omega))⟩
                case measure => simp [intOf]; omega
        · have hlb : decide (i < nv) = false := by simpa using hlt
          have R := Lib.hid (hc_good HN.out (fun j h => HP.out j (by omega)))
          go_wp2
          go_ret2
          exact ⟨ret_two R.out.1 R.out.2, HB.out⟩
end
end Go.Proofs.YtpaecmpiokkdnaaDoor.Int

namespace Go.Proofs.YtpaecmpiokkdnaaDoor.Int
open Go.RowKit Go.Sort Go.Joins
attribute [local go_sem] cell_grow frozen_grow size_grow

abbrev TBL : TypeId := 99
abbrev SLOT : TypeId := 105
theorem u_slot : 144 ≠ SLOT := by decide
theorem u_tbl : 144 ≠ TBL := by decide

theorem made_ok {B p q : Nat} {st : List Slt} {m : Nat} {r : Nat → Bool} (w : World) (h : Tb 99 105 w B p q st m r) :
    Calls Tryd.prog 52 #[.pointer (some ⟨p, 0, none⟩)] w fun e w' => e = .returned (.bool true) ∧ w = w' := by
  have c0 := h.c0
  have n1 := h.n1
  have d1 : decide (0 < st.length) = true := by simp; omega
  go_enter Tryd.func52, Tryd.ntmps52
  go_wp2
  go_ret
  exact ⟨rfl, rfl⟩

theorem handle_ok {B p q : Nat} {st : List Slt} {m : Nat} {r : Nat → Bool} (i g : Nat) (w : World) (h : Tb 99 105 w B p q st m r) (hi : i < st.length) (hg : (st.getD i (0, false, undef)).1 = g) (hg2 : g ≤ 65535) :
    Calls Tryd.prog 55 #[.pointer (some ⟨p, 0, none⟩), .int .i64 i] w fun e w' => e = .returned (.int .i64 ((g : Int) * 65536 + i)) ∧ w = w' := by
  have c0 := h.c0
  have n2 := h.n2
  have s0 := h.s0 hi
  rw [hg] at s0
  have i0 : (0 : Int) ≤ (i : Int) := by omega
  have i1 : (i : Int) < (st.length : Int) := by omega
  clear hg h
  go_enter Tryd.func55, Tryd.ntmps55
  go_wp2
  go_ret
  exact ⟨rfl, rfl⟩

end Go.Proofs.YtpaecmpiokkdnaaDoor.Int

namespace Go.Proofs.YtpaecmpiokkdnaaDoor.Int
open Go.RowKit Go.Sort Go.Joins
attribute [local go_sem] cell_grow frozen_grow size_grow

theorem info_slot : (Tryd.prog.info? 105).map (fun i => (i.zero, i.size, i.bytes)) = some (some (.agg #[.int .i64 0, .bool false, .int .i64 0]), 3, 24) := by kernel_rfl

theorem run_make_slots (n : Nat) (hn : n ≤ 1024) (w : World) :
    (Instr.makeSlice 94 (.int .i64 (n : Int)) (.int .i64 (n : Int))).run Tryd.prog w = .ok (.slice (some ⟨w.heap.size, 0, none⟩) n n) (w.alloc (.cells (slotCells (List.replicate n (0, false, .int .i64 0))).toArray 105)) := by
  obtain ⟨i0, hi, hz0, hz1, hz2⟩ := info_parts info_slot
  have h := run_make (P := Tryd.prog) w 94 105 i0 _ Tryd.underlying94 hi hz0 .i64 .i64 n n (by omega) (by omega) (by rw [hz2]; omega) (by omega)
  have e : madeCells #[.int .i64 0, .bool false, .int .i64 0] (n * 3) = (slotCells (List.replicate n (0, false, .int .i64 0))).toArray := by rw [← made_slots]
  rw [h, Int.toNat_natCast, hz1]
  exact congrArg (fun c => Result.ok (Value.slice (some ⟨w.heap.size, 0, none⟩) n n) (w.alloc (.cells c 105))) e

set_option maxHeartbeats 1600000 in
theorem new_bad (N : Int) (w : World) (h : N < 1 ∨ 1024 < N) :
    Calls Tryd.prog 13 #[.int .i64 N] w fun e w' => e = .returned (.tuple #[.pointer none, .int .i64 7]) ∧ w = w' := by
  by_cases h1 : N < 1
  · go_enter Tryd.func13, Tryd.ntmps13
    go_wp2
    go_ret2
    exact ⟨rfl, rfl⟩
  · have h2 : 1024 < N := by omega
    clear h
    go_enter Tryd.func13, Tryd.ntmps13
    go_wp2
    go_ret2
    exact ⟨rfl, rfl⟩

set_option maxRecDepth 100000 in
set_option maxHeartbeats 1600000 in
theorem new_ok (n : Nat) (w : World) (h1 : 1 ≤ n) (h2 : n ≤ 1024) :
    Calls Tryd.prog 13 #[.int .i64 n] w fun e w' => e = .returned (.tuple #[.pointer (some ⟨w.heap.size + 1, 0, none⟩), .int .i64 0]) ∧
      Tb 99 105 w' w.heap.size (w.heap.size + 1) w.heap.size (List.replicate n (0, false, .int .i64 0)) 0 (fun i => decide (i < n)) ∧ Below w.heap.size w w' := by
  have hmk := run_make_slots n h2
  obtain ⟨cs, hcs⟩ : ∃ cs, cs = (slotCells (List.replicate n ((0, false, .int .i64 0) : Slt))).toArray := ⟨_, rfl⟩
  rw [← hcs] at hmk
  have HC := Lib.hid hcs
  clear hcs
  have HF := Lib.hid (bNew_ok n true ((w.alloc (.cells cs 105)).alloc (.cells #[.slice (some ⟨w.heap.size, 0, none⟩) n n, .int .i64 0, .slice none 0 0, .int .i64 0] 99)) (by omega))
  go_enter Tryd.func13, Tryd.ntmps13
  go_wp2_with fail
  refine HF.out.mono ?_
  rintro e w1 ⟨a, cap, rfl, hown, hb⟩
  have b1 : w1.heap[w.heap.size + 1]? = some (.cells #[.slice (some ⟨w.heap.size, 0, none⟩) n n, .int .i64 0, .slice none 0 0, .int .i64 0] 99 (0, 0)) := by
    rw [hb.block _ (by simp)]
    have := heap_alloc_new (w.alloc (.cells cs 105)) (.cells #[.slice (some ⟨w.heap.size, 0, none⟩) n n, .int .i64 0, .slice none 0 0, .int .i64 0] 99)
    rwa [World.size_alloc] at this
  have b0 : w1.heap[w.heap.size]? = some (.cells cs 105 (0, 0)) := by
    rw [hb.block _ (by simp; omega), Below.heap_alloc _ _ _ (by simp)]
    exact heap_alloc_new w _
  have p1 : w1.cell? ⟨w.heap.size + 1, 1, none⟩ = some (.int .i64 0) := by rw [cell_of_block b1]; rfl
  have p2 : w1.cell? ⟨w.heap.size + 1, 2, none⟩ = some (.slice none 0 0) := by rw [cell_of_block b1]; rfl
  have p3 : ∀ j, w1.frozen? ⟨w.heap.size + 1, j, none⟩ = false := fun j => unfrozen_of_block b1 j
  have HB1 := Lib.hid b1
  have HB0 := Lib.hid b0
  have HO := Lib.hid hown
  have HB := Lib.hid hb
  clear b1 b0 hown hb
  go_wp2
  go_ret2
  refine ⟨rfl, ?_, ((((Below.refl w.heap.size w).alloc (Nat.le_refl _) _).alloc (by simp) _).trans (HB.out.mono (by simp; omega))).setCell (p := ⟨w.heap.size + 1, 1, none⟩) (by simp) _ |>.setCell (p := ⟨w.heap.size + 1, 2, none⟩) (by simp) _⟩
  have o2 := own_ne HO.out HB1.out u_tbl
  refine ⟨by omega, Nat.le_refl _, by omega, by simpa using h1, by simpa using h2, ⟨a, cap, ?_, ?_⟩, ?_, fun i hi => by simp at hi; simp; omega⟩
  · rw [setCell_block (setCell_block HB1.out _) _]; simp
  · rw [List.length_replicate]
    have := ownsRow_setCell_other (ownsRow_setCell_other HO.out (a := ⟨w.heap.size + 1, 1, none⟩) o2 (.int .i64 (n : Int))) (a := ⟨w.heap.size + 1, 2, none⟩) o2 (.slice a ((n + 63) / 64) cap)
    exact ownsRow_le this (by simp; omega)
  · rw [Below.heap_setCell _ _ _ _ (by dsimp only; omega), Below.heap_setCell _ _ _ _ (by dsimp only; omega), HB0.out, HC.out]
end Go.Proofs.YtpaecmpiokkdnaaDoor.Int

namespace Go.Proofs.YtpaecmpiokkdnaaDoor.Int
open Go.RowKit Go.Sort Go.Joins
attribute [local go_sem] cell_grow frozen_grow size_grow

theorem rdy_f (g : Nat) (v : Value) : decide ((g : Int) < 65535) = rdy (g, false, v) := by
  simp only [rdy, Bool.not_false, Bool.true_and]
  exact decide_eq_decide.2 (by omega)
theorem rdy_t (g : Nat) (v : Value) : false = rdy (g, true, v) := by simp [rdy]

set_option maxRecDepth 100000 in
set_option maxHeartbeats 1600000 in
theorem note_ok {B p q : Nat} {st : List Slt} {m : Nat} {r : Nat → Bool} (i : Nat) (w : World) (h : Tb 99 105 w B p q st m r) (hB : B ≤ w.heap.size) (hi : i < st.length) :
    Calls Tryd.prog 54 #[.pointer (some ⟨p, 0, none⟩), .int .i64 i] w fun e w' => e = .returned (.tuple #[]) ∧ Tb 99 105 w' B p q st m (filled r i (i + 1) (rdy (st.getD i (0, false, undef)))) ∧ Fr p q w w' := by
  have c0 := h.c0
  have c1 := h.c1
  obtain ⟨ra, rcap, c2, hsl⟩ := h.c2
  have n2 := h.n2
  have s0 := h.s0 hi
  have s1 := h.s1 hi
  have hc := h.chk0
  have f1 := h.fp
  have hpl : p < w.heap.size := World.block_lt_of_cell? _ _ c1
  obtain ⟨⟨g, al, v⟩, hS⟩ : ∃ S, S = st.getD i (0, false, undef) := ⟨_, rfl⟩
  rw [← hS] at s0 s1 ⊢
  dsimp only at s0 s1
  have i0 : (0 : Int) ≤ (i : Int) := by omega
  have i1 : (i : Int) < (st.length : Int) := by omega
  have H := Lib.hid h
  have e1 : ((i + 1 : Nat) : Int) = (i : Int) + 1 := by omega
  have hsl' : SlK .u64 w.drew ra ((st.length + 63) / 64) (pack r ((st.length + 63) / 64)) := ⟨hsl.length, hsl.cells⟩
  have hwr : IntKind.i64.wrap ((i : Int) + 1) = (i : Int) + 1 := IntWalk.i64_in _ (by omega)
  have hF := fun b => bSet_ok st.length i (i + 1) b ra ((st.length + 63) / 64) rcap _ w.drew hsl' (pack_lt _ _) hc (by omega) (by omega)
  rw [e1] at hF
  have HF := Lib.hid hF
  clear hc hS h e1 hsl hsl' hF
  cases al
  · go_enter Tryd.func54, Tryd.ntmps54
    go_wp2
    first | go_region_with ((go_at_call 80; refine (HF.out (decide ((g : Int) < 65535))).mono ?_; rintro e w' ⟨a', cap', rfl, hown, hbl⟩; have p1 : w'.cell? ⟨p, 1, none⟩ = some (.int .i64 (st.length : Int)) := cell_later hbl c1; have p2 : w'.cell? ⟨p, 2, none⟩ = some (.slice ra ((st.length + 63) / 64) rcap) := cell_later hbl c2; have p3 : ∀ j, w'.frozen? ⟨p, j, none⟩ = false := fun j => (hbl.frozen (p := ⟨p, j, none⟩) hpl).trans (f1 j))) | fail
    all_goals go_end0
    all_goals exact ⟨rfl, H.out.noted' u_tbl hi hB (rdy_f _ _) hbl hown⟩
  · go_enter Tryd.func54, Tryd.ntmps54
    go_wp2
    first | go_region_with ((go_at_call 80; refine (HF.out false).mono ?_; rintro e w' ⟨a', cap', rfl, hown, hbl⟩; have p1 : w'.cell? ⟨p, 1, none⟩ = some (.int .i64 (st.length : Int)) := cell_later hbl c1; have p2 : w'.cell? ⟨p, 2, none⟩ = some (.slice ra ((st.length + 63) / 64) rcap) := cell_later hbl c2; have p3 : ∀ j, w'.frozen? ⟨p, j, none⟩ = false := fun j => (hbl.frozen (p := ⟨p, j, none⟩) hpl).trans (f1 j))) | fail
    all_goals go_end0
    all_goals exact ⟨rfl, H.out.noted' u_tbl hi hB (rdy_t _ _) hbl hown⟩
end Go.Proofs.YtpaecmpiokkdnaaDoor.Int

namespace Go.Proofs.YtpaecmpiokkdnaaDoor.Int
open Go.RowKit Go.Sort Go.Joins
attribute [local go_sem] cell_grow frozen_grow size_grow

abbrev TT (w : World) (B p q : Nat) (st : List Slt) : Prop := Tg 99 105 w B p q st
section
variable {n na nv : Nat} {ga aa va : Option Addr} {gc ac vc : Nat} {G : Nat → Int} {A : Nat → Bool} {V : Nat → Value}
set_option maxRecDepth 100000 in
set_option maxHeartbeats 1600000 in
theorem load_err (w : World) (hG : SlF w ga n (zI G)) (hA : SlF w aa na (zB A)) (he : hcE n na nv G A ≠ 0) :
    Calls Tryd.prog 18 #[.agg #[.slice ga n gc, .slice aa na ac, .slice va nv vc]] w fun e w' => e = .returned (.tuple #[.pointer none, .int .i64 (hcE n na nv G A)]) ∧ Below w.heap.size w w' := by
  have hb0 := below_box0 w (.cells #[.slice ga n gc, .slice aa na ac, .slice va nv vc] 35)
  have HB := Lib.hid hb0
  have HG := Lib.hid (hG.below hb0)
  have HA := Lib.hid (hA.below hb0)
  have hb := bne0_true he
  clear hb0 he hG hA
  go_enter Tryd.func18, Tryd.ntmps18
  go_wp2_with fail
  refine (check_ok _ HG.out HA.out).mono ?_
  rintro e w1 ⟨rfl, b1⟩
  have HB1 := Lib.hid (HB.out.trans (b1.mono (by simp)))
  clear b1
  go_wp2
  go_ret2
  exact ⟨rfl, HB1.out⟩

theorem note_tg {B p q : Nat} {st : List Slt} (i : Nat) (s : Slt) {m : Nat} (w : World) (h : Tb 99 105 w B p q (st.set i s) m (rdyF st)) (hi : i < st.length) (hm : m = (st.set i s).countP alv) (hB : B ≤ w.heap.size) :
    Calls Tryd.prog 54 #[.pointer (some ⟨p, 0, none⟩), .int .i64 i] w fun e w' => e = .returned (.tuple #[]) ∧ TT w' B p q (st.set i s) ∧ Fr p q w w' :=
  (note_ok i w h hB (by simpa using hi)).mono fun _ _ ⟨he, ht, hf⟩ => ⟨he, by
    have e2 : ((st.set i s).getD i (0, false, undef)) = s := by simp [hi]
    rw [e2, rdyF_set s hi] at ht
    exact Tg.of ht hm rfl, hf⟩

set_option maxRecDepth 100000 in
set_option maxHeartbeats 6400000 in
theorem load_ok (w : World) (hG : SlF w ga n (zI G)) (hA : SlF w aa na (zB A)) (hV : SlF w va nv V) (hVf : ∀ j, ∃ (x : Int), V j = (.int .i64 x)) (he : hcE n na nv G A = 0) :
    Calls Tryd.prog 18 #[.agg #[.slice ga n gc, .slice aa na ac, .slice va nv vc]] w fun e w' => ∃ p q, e = .returned (.tuple #[.pointer (some ⟨p, 0, none⟩), .int .i64 0]) ∧ TT w' w.heap.size p q (stP n G A V (.int .i64 0) n) ∧ Below w.heap.size w w' := by
  obtain ⟨h1, h2, rfl, rfl, hbad⟩ := hcE_zero he
  have hb0 := below_box0 w (.cells #[.slice ga nv gc, .slice aa nv ac, .slice va nv vc] 35)
  have HB := Lib.hid hb0
  have HG := Lib.hid (hG.below hb0)
  have HA := Lib.hid (hA.below hb0)
  have HV := Lib.hid (hV.below hb0)
  have HE := Lib.hid he
  have HBad := Lib.hid hbad
  clear hb0 he hG hA hV hbad
  go_enter Tryd.func18, Tryd.ntmps18
  go_wp2_with fail
  refine (check_ok _ HG.out HA.out).mono ?_
  rintro e w1 ⟨rfl, b1⟩
  rw [HE.out]
  have k0 : w1.cell? ⟨w.heap.size, 0, none⟩ = some (.slice ga nv gc) := (b1.cell (p := ⟨w.heap.size, 0, none⟩) (by simp)).trans (by simp [go_sem])
  have k1 : w1.cell? ⟨w.heap.size, 1, none⟩ = some (.slice aa nv ac) := (b1.cell (p := ⟨w.heap.size, 1, none⟩) (by simp)).trans (by simp [go_sem])
  have k2 : w1.cell? ⟨w.heap.size, 2, none⟩ = some (.slice va nv vc) := (b1.cell (p := ⟨w.heap.size, 2, none⟩) (by simp)).trans (by simp [go_sem])
  have hz1 : w.heap.size + 1 ≤ w1.heap.size := by have := b1.size; simpa using this
  have HB1 := Lib.hid (HB.out.trans (b1.mono (by simp)))
  have HG1 := Lib.hid (HG.out.below b1)
  have HA1 := Lib.hid (HA.out.below b1)
  have HV1 := Lib.hid (HV.out.below b1)
  clear b1
  go_wp2_with fail
  refine (new_ok nv _ h1 h2).mono ?_
  rintro e w2 ⟨rfl, t2, b2⟩
  rw [← stP_zero (G := G) (A := A) (V := V), rdyF_zero (G := G) (A := A) (V := V) (Z := .int .i64 0)] at t2
  have T2 := Lib.hid (Tg.of t2 countP_zero rfl)
  have HB2 := Lib.hid b2
  have c0 := (b2.cell (p := ⟨w.heap.size, 0, none⟩) (by dsimp only; omega)).trans k0
  clear t2 b2
  go_wp2
  go_loopw [29] (fun x wr => ∃ i : Nat, i ≤ nv ∧ x = .int .i64 i ∧ Hid (TT wr w1.heap.size (w1.heap.size + 1) w1.heap.size (stP nv G A V (.int .i64 0) i)) ∧ Hid (Below w1.heap.size w1 wr)) (fun x _ => nv - (intOf x).toNat)
  case atStart => exact ⟨0, Nat.zero_le _, rfl, T2, HB2⟩
  case round =>
    obtain ⟨i, hi, rfl, HT, HW⟩ := hrel
    by_cases hlt : i < nv
    · have hlb : decide (i < nv) = true := by simpa using hlt
      have hli : (i : Int) < (nv : Int) := by omega
      have hl0 : (0 : Int) ≤ (i : Int) := by omega
      obtain ⟨gb, go, rfl, cg⟩ := HG1.out.at_ hlt
      obtain ⟨ab, ao, rfl, ca⟩ := HA1.out.at_ hlt
      obtain ⟨vb, vo, rfl, cv⟩ := HV1.out.at_ hlt
      have lg := World.block_lt_of_cell? _ _ cg
      have la := World.block_lt_of_cell? _ _ ca
      have lv := World.block_lt_of_cell? _ _ cv
      dsimp only at lg la lv
      replace cg := (HW.out.cell (p := ⟨gb, go + i, none⟩) lg).trans cg
      replace ca := (HW.out.cell (p := ⟨ab, ao + i, none⟩) la).trans ca
      replace cv := (HW.out.cell (p := ⟨vb, vo + i, none⟩) lv).trans cv
      have d0 := (HW.out.cell (p := ⟨w.heap.size, 0, none⟩) (by dsimp only; omega)).trans k0
      have d1 := (HW.out.cell (p := ⟨w.heap.size, 1, none⟩) (by dsimp only; omega)).trans k1
      have d2 := (HW.out.cell (p := ⟨w.heap.size, 2, none⟩) (by dsimp only; omega)).trans k2
      have n1 : w.heap.size ≠ w1.heap.size := by omega
      have n2 : w.heap.size ≠ w1.heap.size + 1 := by omega
      have n3 : vb ≠ w1.heap.size := by omega
      have n4 : vb ≠ w1.heap.size + 1 := by omega
      have hsz := HT.out.size
      have hcl := HT.out.count_le
      dsimp only [zI, zB] at cg ca
      obtain ⟨b1, b2, b3⟩ := badS_ok (HBad.out i hlt)
      obtain ⟨g, hg⟩ := Int.eq_ofNat_of_zero_le b1
      rw [hg] at cg
      have hltS : i < (stP nv G A V (.int .i64 0) i).length := by rw [stP_length]; exact hlt
      have c9 := Tb.c0 HT.out
      have c3 := Tb.c3 HT.out
      have s0 := Tb.s0 HT.out hltS
      have s1 := Tb.s1 HT.out hltS
      have s2 := Tb.s2 HT.out hltS
      have fp := Tb.fp HT.out
      have fq := Tb.fq HT.out
      rw [stP_length] at c9
      have hget : (stP nv G A V (.int .i64 0) i).getD i (0, false, undef) = (0, false, .int .i64 0) := by rw [stP_get hlt, if_neg (Nat.lt_irrefl i)]
      rw [hget] at s0 s1 s2
      obtain ⟨m, hm⟩ : ∃ m, (stP nv G A V (.int .i64 0) i).countP alv = m := ⟨_, rfl⟩
      rw [hm] at c3 hcl
      have HM := Lib.hid hm
      have hcnt := countP_set' alv (0, false, undef) (stP nv G A V (.int .i64 0) i) i ((G i).toNat, A i, if A i then V i else .int .i64 0) hltS
      have hsucc := stP_succ (G := G) (A := A) (V := V) (Z := .int .i64 0) hlt
      have hgn : (G i).toNat = g := by rw [hg]; rfl
      rw [hget, hm] at hcnt
      rw [hgn] at hcnt hsucc
      cases hA : A i with
      | true =>
        rw [hA] at ca hcnt hsucc
        simp only [Bool.false_eq_true, ↓reduceIte] at hcnt hsucc
        have hX := Tb.stored HT.out u_slot u_tbl hltS (g, true, V i) (m + 1)
        obtain ⟨x, hv⟩ := hVf i
        dsimp only at hX
        rw [hv] at cv hX hcnt hsucc
        rw [show ((m + 1 : Nat) : Int) = (m : Int) + 1 by omega] at hX
        have HX := Lib.hid hX
        have HC := Lib.hid hcnt
        have HS := Lib.hid hsucc
        have HVV := Lib.hid hv
        clear hX hcnt hsucc hv hm hget hgn hg b1 b2 b3 hA
        go_wp2_with fail
        refine (note_tg i (g, true, (.int .i64 x)) _ HX.out hltS (by have h1 := HC.out; rw [show alv (0, false, .int .i64 0) = false from rfl] at h1; simp only [alv, Bool.false_eq_true, ↓reduceIte] at h1 ⊢; omega) (by simp only [World.size_setCell]; exact hsz)).mono ?_
        rintro e w3 ⟨rfl, t3, f3⟩
        have T3 := Lib.hid t3
        have F3 := Lib.hid f3
        clear t3 f3
        go_wp2
        refine ⟨⟨i + 1, by omega, by simp, Lib.hid ?_, Lib.hid ?_⟩, by simp [intOf]; omega⟩
        · have := T3.out
          rw [HS.out] at this
          exact this
        · exact Fr.below HW.out ((((Fr.setQ _ _ _).trans (Fr.setQ _ _ _)).trans (Fr.setQ _ _ _)).trans (Fr.setP _ _ _) |>.trans F3.out) (by omega) (Nat.le_refl _) hsz
      | false =>
        rw [hA] at ca hcnt hsucc
        simp only [Bool.false_eq_true, ↓reduceIte] at hcnt hsucc
        have hX := Tb.stored2 HT.out u_slot hltS (g, false, .int .i64 0) (by rw [hget])
        dsimp only at hX
        have HX := Lib.hid hX
        have HC := Lib.hid hcnt
        have HS := Lib.hid hsucc
        clear hX hcnt hsucc hm hget hgn hg b1 b2 b3 hA
        go_wp2_with fail
        refine (note_tg i (g, false, .int .i64 0) _ HX.out hltS (by have h1 := HC.out; have h2 := HM.out; rw [show alv (0, false, .int .i64 0) = false from rfl] at h1; simp only [alv, Bool.false_eq_true, ↓reduceIte] at h1 ⊢; omega) (by simp only [World.size_setCell]; exact hsz)).mono ?_
        rintro e w3 ⟨rfl, t3, f3⟩
        have T3 := Lib.hid t3
        have F3 := Lib.hid f3
        clear t3 f3
        go_wp2
        refine ⟨⟨i + 1, by omega, by simp, Lib.hid ?_, Lib.hid ?_⟩, by simp [intOf]; omega⟩
        · have := T3.out
          rw [HS.out] at this
          exact this
        · exact Fr.below HW.out (((Fr.setQ _ _ _).trans (Fr.setQ _ _ _)).trans F3.out) (by omega) (Nat.le_refl _) hsz
    · have hlb : decide (i < nv) = false := by simpa using hlt
      obtain rfl : i = nv := by omega
      go_wp2
      go_ret2
      exact ⟨_, _, rfl, Tg.base HT.out (by omega), HB1.out.trans (HW.out.mono (by omega))⟩
end
end Go.Proofs.YtpaecmpiokkdnaaDoor.Int

namespace Go.Proofs.YtpaecmpiokkdnaaDoor.Int
open Go.RowKit Go.Sort Go.Joins
attribute [local go_sem] cell_grow frozen_grow size_grow

set_option maxRecDepth 100000 in
set_option maxHeartbeats 1600000 in
theorem put_ok {B p q : Nat} {st : List Slt} {m : Nat} {r : Nat → Bool} (i g : Nat) (x : Int) (w : World) (h : Tb 99 105 w B p q st m r) (hT : Tab w)
    (hi : nxt r 0 st.length = i) (hlt : i < st.length) (hg : (st.getD i (0, false, undef)).1 = g) (hg2 : g < 65535) (hm : m ≤ 100000) :
    Calls Tryd.prog 14 #[.pointer (some ⟨p, 0, none⟩), (.int .i64 x)] w fun e w' => e = .returned (.tuple #[.int .i64 (((g : Int) + 1) * 65536 + i), .int .i64 0]) ∧
      Tb 99 105 w' B p q (st.set i (g + 1, true, (.int .i64 x))) (m + 1) (filled r i (i + 1) false) ∧ Fr p q w w' := by
  have hN := next_tb h
  rw [hi, if_pos hlt, if_pos hlt] at hN
  obtain ⟨ra, rcap, c2, hsl⟩ := h.c2
  have c1 := h.c1
  have n2 := h.n2
  have hne := h.ne
  have hBw : B ≤ w.heap.size := by have := World.block_lt_of_cell? _ _ c1; have := h.hp; dsimp only at *; omega
  have HM := Lib.hid (made_ok w h)
  have HX := Lib.hid (bNext_ok st.length 0 true ra ((st.length + 63) / 64) rcap _ w hT hsl (pack_lt _ _) (by omega))
  have HN := Lib.hid hN
  have H := Lib.hid h
  have HG := Lib.hid hg
  have i0 : (0 : Int) ≤ (i : Int) := by omega
  have i1 : (i : Int) < (st.length : Int) := by omega
  clear hN h hsl hg hi
  go_enter Tryd.func14, Tryd.ntmps14
  go_wp2_with fail
  refine HM.out.mono ?_
  rintro e w1 ⟨rfl, rfl⟩
  go_wp2_with fail
  refine HX.out.mono ?_
  rintro e W ⟨rfl, hb⟩
  rw [HN.out.1, HN.out.2]
  have hW := H.out.below hb
  have d0 := hW.c0
  have d3 := hW.c3
  have s0 := hW.s0 hlt
  have s1 := hW.s1 hlt
  have s2 := hW.s2 hlt
  have f1 := hW.fp
  have f2 := hW.fq
  rw [HG.out] at s0
  have hS := hW.stored u_slot u_tbl hlt (g + 1, true, (.int .i64 x)) (m + 1)
  dsimp only at hS
  rw [show ((g + 1 : Nat) : Int) = (g : Int) + 1 by omega, show ((m + 1 : Nat) : Int) = (m : Int) + 1 by omega] at hS
  have HS := Lib.hid hS
  have HW := Lib.hid hW
  have HB := Lib.hid hb
  clear hS hW hb c1 c2
  go_wp2_with fail
  refine (note_ok i _ HS.out (by have := HB.out.size; simp only [World.size_setCell]; omega) (by simpa using hlt)).mono ?_
  rintro e w2 ⟨rfl, ht2, hf2⟩
  have e2 : ((st.set i (g + 1, true, (.int .i64 x))).getD i (0, false, undef)) = (g + 1, true, (.int .i64 x)) := by simp [hlt]
  rw [e2, ← rdy_t] at ht2
  have HT2 := Lib.hid ht2
  have HF2 := Lib.hid hf2
  clear ht2 hf2
  go_wp2_with fail
  refine (handle_ok i (g + 1) _ HT2.out (by simpa using hlt) (by rw [e2]) (by omega)).mono ?_
  rintro e w3 ⟨rfl, rfl⟩
  go_wp2
  go_ret2
  exact ⟨rfl, HT2.out, (((((Fr.of_below HB.out).trans (Fr.setQ _ _ _)).trans (Fr.setQ _ _ _)).trans (Fr.setQ _ _ _)).trans (Fr.setP _ _ _)).trans HF2.out⟩

set_option maxRecDepth 100000 in
set_option maxHeartbeats 1600000 in
theorem put_full {B p q : Nat} {st : List Slt} {m : Nat} {r : Nat → Bool} (x : Int) (w : World) (h : Tb 99 105 w B p q st m r) (hT : Tab w) (hlt : ¬ nxt r 0 st.length < st.length) :
    Calls Tryd.prog 14 #[.pointer (some ⟨p, 0, none⟩), (.int .i64 x)] w fun e w' => e = .returned (.tuple #[.int .i64 0, .int .i64 5]) ∧ Below w.heap.size w w' := by
  have hN := next_tb h
  rw [if_neg hlt, if_neg hlt] at hN
  obtain ⟨ra, rcap, c2, hsl⟩ := h.c2
  have c1 := h.c1
  have n2 := h.n2
  have HM := Lib.hid (made_ok w h)
  have HX := Lib.hid (bNext_ok st.length 0 true ra ((st.length + 63) / 64) rcap _ w hT hsl (pack_lt _ _) (by omega))
  have HN := Lib.hid hN
  clear hN h hsl hlt
  go_enter Tryd.func14, Tryd.ntmps14
  go_wp2_with fail
  refine HM.out.mono ?_
  rintro e w1 ⟨rfl, rfl⟩
  go_wp2_with fail
  refine HX.out.mono ?_
  rintro e W ⟨rfl, hb⟩
  rw [HN.out.1, HN.out.2]
  have HB := Lib.hid hb
  clear hb
  go_wp2_with fail
  go_ret2
  exact ⟨rfl, HB.out⟩
end Go.Proofs.YtpaecmpiokkdnaaDoor.Int

namespace Go.Proofs.YtpaecmpiokkdnaaDoor.Int
open Go.RowKit Go.Sort Go.Joins
attribute [local go_sem] cell_grow frozen_grow size_grow

set_option maxRecDepth 100000 in
set_option maxHeartbeats 3200000 in
theorem find_ok {B p q : Nat} {st : List Slt} {m : Nat} {r : Nat → Bool} (h : Int) (w : World) (H : Tb 99 105 w B p q st m r) :
    Calls Tryd.prog 58 #[.pointer (some ⟨p, 0, none⟩), .int .i64 h] w fun e w' => e = .returned (.tuple #[.pointer (findP q st h), .int .i64 (findE st h)]) ∧ w = w' := by
  have c0 := H.c0
  have n2 := H.n2
  have HM := Lib.hid (made_ok w H)
  have HX := Lib.hid (slot_ok h w)
  by_cases h1 : slotI h < 0
  · have R := Lib.hid (find_none (q := q) (st := st) (.inl h1))
    have d1 : decide (slotI h < 0) = true := by simpa using h1
    clear H h1
    go_enter Tryd.func58, Tryd.ntmps58
    go_wp2_with fail
    refine HM.out.mono ?_
    rintro e w1 ⟨rfl, rfl⟩
    go_wp2_with fail
    refine HX.out.mono ?_
    rintro e w1 ⟨rfl, rfl⟩
    go_wp2
    go_ret2
    exact ⟨ret_ptr R.out, rfl⟩
  obtain ⟨i, hi⟩ := Int.eq_ofNat_of_zero_le (by omega : 0 ≤ slotI h)
  have d1 : decide ((i : Int) < 0) = false := by simp
  by_cases h2 : st.length ≤ i
  · have R := Lib.hid (find_none (q := q) (st := st) (h := h) (.inr (.inl (by omega))))
    have d2 : decide ((st.length : Int) ≤ (i : Int)) = true := by simpa using h2
    have d2' : decide (st.length ≤ i) = true := by simpa using h2
    rw [hi] at HX
    clear H h1 h2 hi
    go_enter Tryd.func58, Tryd.ntmps58
    go_wp2_with fail
    refine HM.out.mono ?_
    rintro e w1 ⟨rfl, rfl⟩
    go_wp2_with fail
    refine HX.out.mono ?_
    rintro e w1 ⟨rfl, rfl⟩
    go_wp2
    go_ret2
    exact ⟨ret_ptr R.out, rfl⟩
  have hlt : i < st.length := by omega
  have d2 : decide ((st.length : Int) ≤ (i : Int)) = false := by simp; omega
  have d2' : decide (st.length ≤ i) = false := by simp; omega
  have s0 := H.s0 hlt
  have s1 := H.s1 hlt
  obtain ⟨⟨g, al, v⟩, hS⟩ : ∃ S, S = st.getD i (0, false, undef) := ⟨_, rfl⟩
  rw [← hS] at s0 s1
  dsimp only at s0 s1
  have i0 : (0 : Int) ≤ (i : Int) := by omega
  have i1 : (i : Int) < (st.length : Int) := by omega
  by_cases h3 : (g : Int) < numI h
  · have R := Lib.hid (find_far (q := q) hi hlt (by rw [← hS]; exact h3))
    have d3 : decide ((g : Int) < numI h) = true := by simpa using h3
    rw [hi] at HX
    clear H h1 h2 h3 hi hS
    go_enter Tryd.func58, Tryd.ntmps58
    go_wp2_with fail
    refine HM.out.mono ?_
    rintro e w1 ⟨rfl, rfl⟩
    go_wp2_with fail
    refine HX.out.mono ?_
    rintro e w1 ⟨rfl, rfl⟩
    go_wp2
    go_ret2
    exact ⟨ret_ptr R.out, rfl⟩
  have d3 : decide ((g : Int) < numI h) = false := by simpa using h3
  by_cases h4 : numI h < (g : Int)
  · have R := Lib.hid (find_old (q := q) hi hlt (by rw [← hS]; exact h3) (.inl (by rw [← hS]; exact h4)))
    have d4 : decide (numI h < (g : Int)) = true := by simpa using h4
    rw [hi] at HX
    clear H h1 h2 h3 h4 hi hS
    go_enter Tryd.func58, Tryd.ntmps58
    go_wp2_with fail
    refine HM.out.mono ?_
    rintro e w1 ⟨rfl, rfl⟩
    go_wp2_with fail
    refine HX.out.mono ?_
    rintro e w1 ⟨rfl, rfl⟩
    go_wp2
    go_ret2
    exact ⟨ret_ptr R.out, rfl⟩
  have d4 : decide (numI h < (g : Int)) = false := by simpa using h4
  cases al
  · have R := Lib.hid (find_old (q := q) hi hlt (by rw [← hS]; exact h3) (.inr (by rw [← hS])))
    rw [hi] at HX
    clear H h1 h2 h3 h4 hi hS
    go_enter Tryd.func58, Tryd.ntmps58
    go_wp2_with fail
    refine HM.out.mono ?_
    rintro e w1 ⟨rfl, rfl⟩
    go_wp2_with fail
    refine HX.out.mono ?_
    rintro e w1 ⟨rfl, rfl⟩
    go_wp2
    go_ret2
    exact ⟨ret_ptr R.out, rfl⟩
  · have R := Lib.hid (find_yes (q := q) hi hlt (by rw [← hS]; exact h3) (by rw [← hS]; exact h4) (by rw [← hS]))
    rw [hi] at HX
    clear H h1 h2 h3 h4 hi hS
    go_enter Tryd.func58, Tryd.ntmps58
    go_wp2_with fail
    refine HM.out.mono ?_
    rintro e w1 ⟨rfl, rfl⟩
    go_wp2_with fail
    refine HX.out.mono ?_
    rintro e w1 ⟨rfl, rfl⟩
    go_wp2
    go_ret2
    exact ⟨ret_ptr R.out, rfl⟩
end Go.Proofs.YtpaecmpiokkdnaaDoor.Int

namespace Go.Proofs.YtpaecmpiokkdnaaDoor.Int
open Go.RowKit Go.Sort Go.Joins
attribute [local go_sem] cell_grow frozen_grow size_grow

theorem findE_zero {st : List Slt} {h : Int} (he : findE st h = 0) : ∃ i : Nat, slotI h = i ∧ i < st.length ∧ (st.getD i (0, false, undef)).2.1 = true ∧ numI h = ((st.getD i (0, false, undef)).1 : Int) := by
  unfold findE at he
  by_cases h1 : slotI h < 0 ∨ (st.length : Int) ≤ slotI h ∨ ((atH st h).1 : Int) < numI h
  · rw [if_pos h1] at he; cases he
  · rw [if_neg h1] at he
    by_cases h2 : numI h < ((atH st h).1 : Int) ∨ (atH st h).2.1 = false
    · rw [if_pos h2] at he; cases he
    · obtain ⟨i, hi⟩ := Int.eq_ofNat_of_zero_le (by omega : 0 ≤ slotI h)
      rw [atH_eq hi] at h1 h2
      refine ⟨i, hi, by omega, ?_, by omega⟩
      cases hb : (st.getD i (0, false, undef)).2.1 with
      | true => rfl
      | false => exact absurd (.inr hb) h2

set_option maxRecDepth 100000 in
set_option maxHeartbeats 1600000 in
theorem get_err {B p q : Nat} {st : List Slt} {m : Nat} {r : Nat → Bool} (h : Int) (w : World) (H : Tb 99 105 w B p q st m r) (he : findE st h ≠ 0) :
    Calls Tryd.prog 28 #[.pointer (some ⟨p, 0, none⟩), .int .i64 h] w fun e w' => e = .returned (.tuple #[.int .i64 0, .int .i64 (findE st h)]) ∧ w = w' := by
  have HF := Lib.hid (find_ok h w H)
  have hb := bne0_true he
  clear he H
  go_enter Tryd.func28, Tryd.ntmps28
  go_wp2_with fail
  refine HF.out.mono ?_
  rintro e w1 ⟨rfl, rfl⟩
  go_wp2
  go_ret2
  exact ⟨rfl, rfl⟩
set_option maxRecDepth 100000 in
set_option maxHeartbeats 1600000 in
theorem get_ok {B p q : Nat} {st : List Slt} {m : Nat} {r : Nat → Bool} (h : Int) (w : World) (H : Tb 99 105 w B p q st m r) (he : findE st h = 0) :
    Calls Tryd.prog 28 #[.pointer (some ⟨p, 0, none⟩), .int .i64 h] w fun e w' => e = .returned (.tuple #[(st.getD (slotI h).toNat (0, false, undef)).2.2, .int .i64 0]) ∧ w = w' := by
  obtain ⟨i, hi, hlt, _, _⟩ := findE_zero he
  have s2 := H.s2 hlt
  have hF := find_ok h w H
  have hP : findP q st h = some ⟨q, i * 3, none⟩ := by unfold findP; rw [if_pos he, hi]; rfl
  rw [hP, he] at hF
  have HF := Lib.hid hF
  obtain ⟨v, hv⟩ : ∃ v, v = (st.getD i (0, false, undef)).2.2 := ⟨_, rfl⟩
  rw [← hv] at s2
  have e : (st.getD (slotI h).toNat (0, false, undef)).2.2 = v := by rw [hi, hv]; rfl
  rw [e]
  clear hF hP he H hv e hi
  go_enter Tryd.func28, Tryd.ntmps28
  go_wp2_with fail
  refine HF.out.mono ?_
  rintro e w1 ⟨rfl, rfl⟩
  go_wp2
  go_ret2
  exact ⟨rfl, rfl⟩

set_option maxRecDepth 100000 in
set_option maxHeartbeats 1600000 in
theorem drop_err {B p q : Nat} {st : List Slt} {m : Nat} {r : Nat → Bool} (h : Int) (w : World) (H : Tb 99 105 w B p q st m r) (he : findE st h ≠ 0) :
    Calls Tryd.prog 23 #[.pointer (some ⟨p, 0, none⟩), .int .i64 h] w fun e w' => e = .returned (.tuple #[.int .i64 0, .int .i64 (findE st h)]) ∧ w = w' := by
  have HF := Lib.hid (find_ok h w H)
  have hb := bne0_true he
  have hmf : ∀ (fn : Fn) (first cap : Array Value) (w : World), (Instr.makeFunc fn first cap).run Tryd.prog w = .ok (.func fn first cap) w := fun _ _ _ _ => rfl
  clear he H
  go_enter Tryd.func23, Tryd.ntmps23
  go_wp2_with fail
  refine HF.out.mono ?_
  rintro e w1 ⟨rfl, rfl⟩
  go_wp2
  go_ret2
  exact ⟨rfl, rfl⟩

set_option maxRecDepth 100000 in
set_option maxHeartbeats 1600000 in
theorem drop_ok {B p q : Nat} {st : List Slt} {m : Nat} {r : Nat → Bool} (h : Int) (i g : Nat) (w : World) (H : Tb 99 105 w B p q st (m + 1) r) (he : findE st h = 0) (hi : slotI h = i) (hg : (st.getD i (0, false, undef)).1 = g) (hm : m ≤ 100000) :
    Calls Tryd.prog 23 #[.pointer (some ⟨p, 0, none⟩), .int .i64 h] w fun e w' => e = .returned (.tuple #[(st.getD i (0, false, undef)).2.2, .int .i64 0]) ∧
      Tb 99 105 w' B p q (st.set i (g, false, .int .i64 0)) m (filled r i (i + 1) (rdy (g, false, .int .i64 0))) ∧ Fr p q w w' := by
  obtain ⟨i', hi', hlt, _, _⟩ := findE_zero he
  obtain rfl : i' = i := by omega
  have s1 := H.s1 hlt
  have s2 := H.s2 hlt
  have d3 := H.c3
  have f1 := H.fp
  have f2 := H.fq
  have hne := H.ne
  have hBw : B ≤ w.heap.size := by have := World.block_lt_of_cell? _ _ d3; have := H.hp; dsimp only at *; omega
  rw [show ((m + 1 : Nat) : Int) = (m : Int) + 1 by omega] at d3
  have hF := find_ok h w H
  have hP : findP q st h = some ⟨q, i' * 3, none⟩ := by unfold findP; rw [if_pos he, hi]; rfl
  rw [hP, he] at hF
  have HF := Lib.hid hF
  have hX := slot_ok h w
  have HH := Lib.hid H
  have HG := Lib.hid hg
  have HI := Lib.hid hi
  obtain ⟨v, hv⟩ : ∃ v, v = (st.getD i' (0, false, undef)).2.2 := ⟨_, rfl⟩
  rw [← hv] at s2 ⊢
  have hmf : ∀ (fn : Fn) (first cap : Array Value) (w : World), (Instr.makeFunc fn first cap).run Tryd.prog w = .ok (.func fn first cap) w := fun _ _ _ _ => rfl
  clear hF hP he H hv hi hi' hg hX
  go_enter Tryd.func23, Tryd.ntmps23
  go_wp2_with fail
  refine HF.out.mono ?_
  rintro e w1 ⟨rfl, rfl⟩
  go_wp2_with fail
  refine (slot_ok h _).mono ?_
  rintro e w1 ⟨rfl, rfl⟩
  rw [HI.out]
  go_wp2_with fail
  refine (note_ok i' _ (HH.out.dropped u_slot u_tbl hlt HG.out (.int .i64 0) (m : Int) m rfl) (by simp only [World.size_setCell]; omega) (by simpa using hlt)).mono ?_
  rintro e w2 ⟨rfl, ht2, hf2⟩
  have e2 : ((st.set i' (g, false, .int .i64 0)).getD i' (0, false, undef)) = (g, false, .int .i64 0) := by simp [hlt]
  rw [e2] at ht2
  have HT2 := Lib.hid ht2
  have HF2 := Lib.hid hf2
  clear ht2 hf2
  go_wp2
  go_ret2
  exact ⟨rfl, HT2.out, (((Fr.setQ _ _ _).trans (Fr.setQ _ _ _)).trans (Fr.setP _ _ _)).trans HF2.out⟩
end Go.Proofs.YtpaecmpiokkdnaaDoor.Int

namespace Go.Proofs.YtpaecmpiokkdnaaDoor.Int
open Go.RowKit Go.Sort Go.Joins
attribute [local go_sem] cell_grow frozen_grow size_grow

section
variable {B p q : Nat} {st : List Slt}
theorem tnew_ok (n : Nat) (w : World) (h1 : 1 ≤ n) (h2 : n ≤ 1024) : Calls Tryd.prog 13 #[.int .i64 n] w fun e w' => e = .returned (.tuple #[.pointer (some ⟨w.heap.size + 1, 0, none⟩), .int .i64 0]) ∧
    TT w' w.heap.size (w.heap.size + 1) w.heap.size (List.replicate n (0, false, .int .i64 0)) ∧ Below w.heap.size w w' :=
  (new_ok n w h1 h2).mono fun _ _ ⟨he, ht, hb⟩ => ⟨he, by
    rw [← stP_zero (G := fun _ => 0) (A := fun _ => false) (V := fun _ => .int .i64 0), rdyF_zero (G := fun _ => 0) (A := fun _ => false) (V := fun _ => .int .i64 0) (Z := .int .i64 0)] at ht
    rw [← stP_zero (G := fun _ => 0) (A := fun _ => false) (V := fun _ => .int .i64 0)]
    exact Tg.of ht countP_zero rfl, hb⟩
theorem cntV_rdy (h : chk st.length (pack (rdyF st) ((st.length + 63) / 64)) = 0) : cntV st.length (pack (rdyF st) ((st.length + 63) / 64)) 0 st.length = ((cnt (rdyF st) 0 st.length : Nat) : Int) := by
  unfold cntV
  rw [if_pos (prt_ok h (by omega))]
  congr 1
  simp only [Int.toNat_zero, Int.toNat_natCast]
  exact cnt_congr _ fun i hi => by rw [pack_bat _ _ _ (by omega)]
set_option maxRecDepth 100000 in
set_option maxHeartbeats 1600000 in
theorem room_ok (w : World) (h : TT w B p q st) : Calls Tryd.prog 36 #[.pointer (some ⟨p, 0, none⟩)] w fun e w' => e = .returned (.int .i64 ((cnt (rdyF st) 0 st.length : Nat) : Int)) ∧ Below w.heap.size w w' := by
  have c0 := Tb.c0 h
  have c1 := Tb.c1 h
  obtain ⟨ra, rcap, c2, hsl⟩ := Tb.c2 h
  have hcv := cntV_rdy (Tb.chk0 h)
  have n2 := h.n2
  have HM := Lib.hid (made_ok w h)
  obtain ⟨ws, hws⟩ : ∃ ws, pack (rdyF st) ((st.length + 63) / 64) = ws := ⟨_, rfl⟩
  have hlt : ∀ x ∈ ws, x < 18446744073709551616 := by rw [← hws]; exact pack_lt _ _
  rw [hws] at hsl hcv
  rw [← hcv]
  have HS := Lib.hid hsl
  have HL := Lib.hid hlt
  have HC : Hid (∀ w', Below w.heap.size w w' → w'.cell? ⟨p, 0, none⟩ = some (.slice (some ⟨q, 0, none⟩) st.length st.length) ∧ w'.cell? ⟨p, 1, none⟩ = some (.int .i64 (st.length : Int)) ∧ w'.cell? ⟨p, 2, none⟩ = some (.slice ra ((st.length + 63) / 64) rcap)) :=
    Lib.hid (fun w' hb => ⟨cell_later hb c0, cell_later hb c1, cell_later hb c2⟩)
  clear h hcv hws hlt hsl
  go_enter Tryd.func36, Tryd.ntmps36
  go_wp2_with fail
  refine HM.out.mono ?_
  rintro e w1 ⟨rfl, rfl⟩
  go_wp2_with fail
  go_region_held3 (fun w' => Below w.heap.size w w' ∧ w'.cell? ⟨p, 0, none⟩ = some (.slice (some ⟨q, 0, none⟩) st.length st.length) ∧ w'.cell? ⟨p, 1, none⟩ = some (.int .i64 (st.length : Int)) ∧ w'.cell? ⟨p, 2, none⟩ = some (.slice ra ((st.length + 63) / 64) rcap))
    ((refine keepN HC ?_; first | exact (Below.refl _ _).drew | exact And.left (by assumption) | exact bel_call (by assumption) (by assumption)))
    ((go_at_call 64; (refine (bCount_ok st.length 0 st.length ra ((st.length + 63) / 64) rcap ws _ (HS.out.below (And.left (by assumption))) HL.out (by omega)).mono ?_); rintro e w2 ⟨rfl, b2⟩; have g2 : Below w.heap.size w w2 := bel_call (by assumption) b2))
  all_goals
    go_wp2
    go_ret
    exact ⟨rfl, g2⟩

theorem countP_at {i : Nat} (hi : i < st.length) (s : Slt) : (st.set i s).countP alv + (if (st.getD i (0, false, undef)).2.1 then 1 else 0) = st.countP alv + (if s.2.1 then 1 else 0) := countP_set' alv (0, false, undef) st i s hi
theorem rdyF_at {i : Nat} (h : rdyF st i = true) : i < st.length ∧ (st.getD i (0, false, undef)).2.1 = false ∧ (st.getD i (0, false, undef)).1 < 65535 := by
  unfold rdyF rdy at h
  simp only [Bool.and_eq_true, decide_eq_true_eq, Bool.not_eq_true'] at h
  exact ⟨h.1, h.2.1, h.2.2⟩
theorem next_at {i : Nat} (hi : nxt (rdyF st) 0 st.length = i) (hlt : i < st.length) : rdyF st i = true := by
  have := (nxt_spec (p := rdyF st) (a := 0) (n := st.length) (Nat.zero_le _)).2.2.2
  rw [hi] at this
  exact this hlt
theorem tput_ok (i : Nat) (x : Int) (w : World) (h : TT w B p q st) (hT : Tab w) (hi : nxt (rdyF st) 0 st.length = i) (hlt : i < st.length) :
    Calls Tryd.prog 14 #[.pointer (some ⟨p, 0, none⟩), (.int .i64 x)] w fun e w' => e = .returned (.tuple #[.int .i64 ((((st.getD i (0, false, undef)).1 : Int) + 1) * 65536 + i), .int .i64 0]) ∧
      TT w' B p q (st.set i ((st.getD i (0, false, undef)).1 + 1, true, (.int .i64 x))) ∧ Fr p q w w' := by
  obtain ⟨_, hal, hg⟩ := rdyF_at (next_at hi hlt)
  have hc := h.count_le
  refine (put_ok i _ x w h hT hi hlt rfl hg (by omega)).mono ?_
  rintro e w' ⟨he, ht, hf⟩
  refine ⟨he, ?_, hf⟩
  rw [rdy_t ((st.getD i (0, false, undef)).1 + 1) ((.int .i64 x)), rdyF_set _ hlt] at ht
  refine Tg.of ht ?_ rfl
  have := countP_at hlt ((st.getD i (0, false, undef)).1 + 1, true, (.int .i64 x))
  rw [hal] at this
  simp only [Bool.false_eq_true, ↓reduceIte] at this
  omega
theorem tdrop_ok (h : Int) (i : Nat) (w : World) (H : TT w B p q st) (he : findE st h = 0) (hi : slotI h = i) :
    Calls Tryd.prog 23 #[.pointer (some ⟨p, 0, none⟩), .int .i64 h] w fun e w' => e = .returned (.tuple #[(st.getD i (0, false, undef)).2.2, .int .i64 0]) ∧
      TT w' B p q (st.set i ((st.getD i (0, false, undef)).1, false, .int .i64 0)) ∧ Fr p q w w' := by
  obtain ⟨i', hi', hlt, hal, _⟩ := findE_zero he
  obtain rfl : i' = i := by omega
  have hc := H.count_le
  have e0 := countP_at hlt ((st.getD i' (0, false, undef)).1, false, .int .i64 0)
  rw [hal] at e0
  simp only [Bool.false_eq_true, ↓reduceIte] at e0
  obtain ⟨m, hm⟩ : ∃ m, st.countP alv = m + 1 := ⟨st.countP alv - 1, by omega⟩
  have H' : Tb 99 105 w B p q st (m + 1) (rdyF st) := by rw [← hm]; exact H
  refine (drop_ok h i' _ w H' he hi rfl (by omega)).mono ?_
  rintro e w' ⟨he, ht, hf⟩
  refine ⟨he, ?_, hf⟩
  rw [rdyF_set _ hlt] at ht
  exact Tg.of ht (by omega) rfl
theorem tput_full (x : Int) (w : World) (h : TT w B p q st) (hT : Tab w) (hlt : ¬ nxt (rdyF st) 0 st.length < st.length) :
    Calls Tryd.prog 14 #[.pointer (some ⟨p, 0, none⟩), (.int .i64 x)] w fun e w' => e = .returned (.tuple #[.int .i64 0, .int .i64 5]) ∧ Below w.heap.size w w' := put_full x w h hT hlt
end
end Go.Proofs.YtpaecmpiokkdnaaDoor.Int

namespace Go.Proofs.YtpaecmpiokkdnaaDoor
open Go.RowKit

/-- what an iterator promises to a loop that keeps I -/
def SeqI {α : Type} (F : Fence) (n : Nat) (P : Program) (gf : Nat) (lb : Array Value) (encs : α → Array Value) (I : List α → World → Prop) (G : List α → α → Prop) (S : List α → Prop) (w : World) : Prop :=
  ∀ (l : Nat) (J Jx : List α → World → Prop) (W : World), Below w.heap.size w W → AbidesFrom W.heap.size J → AbidesFrom W.heap.size Jx → (∀ pre W1, J pre W1 → I pre W1) →
    (∀ pre x W1, J pre W1 → G pre x → YieldAt F (n - 1) P l (encs x) W1 fun e W' => (e = .returned (.bool true) ∧ J (pre ++ [x]) W') ∨ (e = .returned (.bool false) ∧ Jx (pre ++ [x]) W')) →
    J [] W →
    CallsIn F n P gf (#[.func (.yield l) #[] #[]] ++ lb) W fun e W' => (∃ v, e = .returned v) ∧ ((∃ xs, S xs ∧ J xs W') ∨ (∃ pre, Jx pre W'))

/-- how a round may end -/
abbrev roundPost {α : Type} (B : Nat) (I : List α → World → Prop) (Ix : Code → List α → World → Prop) (xs : List α) (W : World) : Exit → Act → World → Prop := ownPostG B (fun _ _ => True) I Ix xs W

theorem wpIn_iter {α : Type} {F : Fence} {n : Nat} {P : Program} {g : Operand} {ps : Array Tmp} {assign body : Code} {Q : Exit → Act → World → Prop} {a : Act} {w : World}
    (hro : F.round = none) (h1 : 1 ≤ n) {gf : Nat} {lb : Array Value} (hg : a.eval g = .func (.func gf) #[] lb) (hFg : F.fn gf) (eg : ∀ args w, (callFunc gf args).run P w = .ok (.enter gf args) w)
    {encs : α → Array Value} {G : List α → α → Prop} {S : List α → Prop} (I : List α → World → Prop) (hseq : SeqI F (n - 1) P gf lb encs I G S w)
    (hps : ∀ x, (encs x).size = ps.size) (Ix : Code → List α → World → Prop) (hI : OwnFrom w.heap.size I) (hIx : ∀ c, OwnFrom w.heap.size (Ix c)) (h0 : I [] w) (Ax : α → Act → World → Prop) (hAx : ∀ x a', OwnFrom w.heap.size (fun (_ : Unit) W => Ax x a' W))
    (hassign : ∀ (l : Nat) (pre : List α) (x : α) (W : World) (K : Act → World → Prop), I pre W → G pre x → (∀ a' W', KeepsFrom w.heap.size W W' → I pre W' → Ax x a' W' → K a' W') →
      assign.wpIn (F.inRound l) (n - 1 - 1) P (Exit.then K (fun _ _ _ => False)) { tmps := (ps.zip (encs x)).foldl (fun t (p, v) => t.setIfInBounds p v) a.tmps, defers := [] } W)
    (hbody : ∀ (l : Nat) (pre : List α) (x : α) (a' : Act) (W : World), w.heap.size ≤ l → I pre W → Ax x a' W → G pre x → body.wpIn (F.inRound l) (n - 1 - 1) P (roundPost w.heap.size I Ix (pre ++ [x]) W) a' W)
    (hdone : ∀ (D : Nat) (xs : List α) (W : World), w.heap.size ≤ D → S xs → I xs W → W.heap[D]? = some (.deferred (some [])) → Q .normal { a with defers := { target := .collected D, args := #[] } :: a.defers } W)
    (hstop : ∀ (D : Nat) (c : Code) (pre : List α) (W : World), w.heap.size ≤ D → Ix c pre W → W.heap[D]? = some (.deferred (some [])) → c.wpIn F n P Q { a with defers := { target := .collected D, args := #[] } :: a.defers } W) :
    (Code.rangeFunc g ps assign body).wpIn F n P Q a w := by
  refine wpIn_rangeFunc fun fn hfn => ?_
  rw [hro]
  obtain ⟨rec, hrec⟩ : ∃ rec : LoopState → Option Code → Loop, rec = fun st pe => { state := st, pending := pe, fn, tmps := a.tmps, params := ps, assign, body, defers := w.heap.size } := ⟨_, rfl⟩
  obtain ⟨W1, hW1⟩ : ∃ W1, (w.alloc (.deferred (some []))).alloc (.loop (rec .ready none)) = W1 := ⟨_, rfl⟩
  have hL1 : W1.heap[w.heap.size + 1]? = some (.loop (rec .ready none)) := by
    rw [← hW1]; have := World.alloc_heap_new (w.alloc (.deferred (some []))) (.loop (rec .ready none)); rwa [World.size_alloc] at this
  have hK1 : W1.heap[w.heap.size]? = some (.deferred (some [])) := by
    rw [← hW1]; exact (Below.heap_alloc _ _ _ (by simp)).trans (World.alloc_heap_new w _)
  have hI1 : I [] W1 := by rw [← hW1]; exact hI.alloc _ (hI.alloc _ h0)
  have hb1 : Below w.heap.size w W1 := by
    rw [← hW1]; exact ((Below.refl _ w).alloc (Nat.le_refl _) _).alloc (by simp) _
  have hs1 : w.heap.size ≤ W1.heap.size := hb1.size
  refine ⟨w.heap.size + 1, [{ target := .collected w.heap.size, args := #[] }], W1, { target := .fn (.func gf) lb, args := #[.func (.yield (w.heap.size + 1)) #[] #[]] }, W1, gf,
    #[.func (.yield (w.heap.size + 1)) #[] #[]] ++ lb, W1, ?_, ?_, ?_, ?_, fun _ => h1, ?_⟩
  · rw [← hW1, hrec]; exact run_enterLoop_outer _ _ _ _ _
  · simp only [resolve, hg]
    simp [go_sem]
  · intro f' hf'; simp [Target.leads] at hf'; subst hf'; exact hFg
  · simp [invoke, go_sem, eg]
  · have hnw : ∀ {A : World} {row : Option Nat}, (∀ r, row = some r → W1.heap.size ≤ r ∧ ∃ o : Obj, A.heap[r]? = some o ∧ o.isWalk = true) → (∀ r, row = some r → w.heap.size ≤ r ∧ ∃ o : Obj, A.heap[r]? = some o ∧ o.isCells = false) :=
      fun hr r e => by obtain ⟨hB, o, ho, hw⟩ := hr r e; exact ⟨Nat.le_trans hs1 hB, o, ho, Obj.not_cells_of_walk hw⟩
    refine (hseq (w.heap.size + 1)
      (fun pre W => I pre W ∧ W.heap[w.heap.size + 1]? = some (.loop (rec .ready none)) ∧ W.heap[w.heap.size]? = some (.deferred (some [])))
      (fun pre W => ∃ c, Ix c pre W ∧ W.heap[w.heap.size + 1]? = some (.loop (rec .done (some c))) ∧ W.heap[w.heap.size]? = some (.deferred (some [])))
      W1 hb1
      (fun s A B row hs hg' hr => ⟨hI s A B row hs.1 hg' (hnw hr), (grownBy_keeps hg' (fun r e => (hr r e).2) hs.2.1 rfl).trans hs.2.1, (grownBy_keeps hg' (fun r e => (hr r e).2) hs.2.2 rfl).trans hs.2.2⟩)
      (fun s A B row hs hg' hr => by
        obtain ⟨c, hc, hl, hk⟩ := hs
        exact ⟨c, hIx c s A B row hc hg' (hnw hr), (grownBy_keeps hg' (fun r e => (hr r e).2) hl rfl).trans hl, (grownBy_keeps hg' (fun r e => (hr r e).2) hk rfl).trans hk⟩)
      (fun _ _ h => h.1) ?_ ⟨hI1, hL1, hK1⟩).mono ?_
    · rintro pre x W ⟨hi, hl, hk⟩ hG
      have hy := run_yield (P := P) (args := encs x) hl (by rw [hrec]; exact hps x)
      rw [hrec] at hy
      refine ⟨fn, _, assign, body, hy, roundIn_of_wpIn hfn (hassign _ pre x W _ hi hG ?_)⟩
      clear hy
      intro a' Wa hkfa hia hax
      have hl := hkfa.same _ _ (Nat.le_succ _) hl rfl
      have hk := hkfa.same _ _ (Nat.le_refl _) hk rfl
      have hlt : w.heap.size + 1 < Wa.heap.size := (Array.getElem?_eq_some_iff.1 hl).1
      refine ⟨_, run_beginRound hl (by rw [hrec]), ?_⟩
      have hl2 : (Wa.putObj (w.heap.size + 1) (.loop { rec .ready none with state := .busy })).heap[w.heap.size + 1]? = some (.loop { rec .ready none with state := .busy }) := World.putObj_heap_same hlt
      have hk2 : (Wa.putObj (w.heap.size + 1) (.loop { rec .ready none with state := .busy })).heap[w.heap.size]? = some (.deferred (some [])) := (World.putObj_heap_other (by omega)).trans hk
      refine wpIn_mono (hbody _ pre x a' _ (Nat.le_succ _) (hI.putObj _ hia (Nat.le_succ _) hl rfl) ((hAx x a').putObj (s := ()) _ hax (Nat.le_succ _) hl rfl) hG) ?_
      have fin : ∀ (jump : Option Code) (W3 : World), KeepsFrom w.heap.size (Wa.putObj (w.heap.size + 1) (.loop { rec .ready none with state := .busy })) W3 →
          (Instr.endRound (w.heap.size + 1) jump).run P W3 = .ok (.bool jump.isNone) (W3.putObj (w.heap.size + 1) (.loop (rec (if jump.isNone then .ready else .done) jump))) ∧
          W3.heap[w.heap.size + 1]? = some (.loop { rec .ready none with state := .busy }) ∧
          (W3.putObj (w.heap.size + 1) (.loop (rec (if jump.isNone then .ready else .done) jump))).heap[w.heap.size + 1]? = some (.loop (rec (if jump.isNone then .ready else .done) jump)) ∧
          (W3.putObj (w.heap.size + 1) (.loop (rec (if jump.isNone then .ready else .done) jump))).heap[w.heap.size]? = some (.deferred (some [])) := fun jump W3 hk3 => by
        have hl3 := hk3.same _ _ (Nat.le_succ _) hl2 rfl
        have := run_endRound (P := P) jump hl3
        rw [hrec] at this ⊢
        exact ⟨this, by rw [hrec] at hl3; exact hl3, World.putObj_heap_same (Array.getElem?_eq_some_iff.1 hl3).1, (World.putObj_heap_other (by omega)).trans (hk3.same _ _ (Nat.le_refl _) hk2 rfl)⟩
      rintro e a3 W3 hp
      cases e with
      | normal =>
        obtain ⟨hk3, -, hi3⟩ := hp
        obtain ⟨hr, hl3, hl4, hk4⟩ := fin none W3 hk3
        exact ⟨_, _, hr, .inl ⟨rfl, hI.putObj _ hi3 (Nat.le_succ _) hl3 rfl, hl4, hk4⟩⟩
      | ret =>
        obtain ⟨hk3, hi3⟩ := hp
        obtain ⟨hr, hl3, hl4, hk4⟩ := fin (some .ret) W3 hk3
        exact ⟨_, _, hr, .inr ⟨rfl, .ret, (hIx _).putObj _ hi3 (Nat.le_succ _) hl3 rfl, hl4, hk4⟩⟩
      | exit id =>
        obtain ⟨hk3, hi3⟩ := hp
        obtain ⟨hr, hl3, hl4, hk4⟩ := fin (some (.exit id)) W3 hk3
        exact ⟨_, _, hr, .inr ⟨rfl, .exit id, (hIx _).putObj _ hi3 (Nat.le_succ _) hl3 rfl, hl4, hk4⟩⟩
      | goto t =>
        obtain ⟨hk3, hi3⟩ := hp
        obtain ⟨hr, hl3, hl4, hk4⟩ := fin (some (.goto t)) W3 hk3
        exact ⟨_, _, hr, .inr ⟨rfl, .goto t, (hIx _).putObj _ hi3 (Nat.le_succ _) hl3 rfl, hl4, hk4⟩⟩
      | panic ch => exact hp.elim
      | outgrown => exact hp.elim
    · rintro e W2 ⟨⟨v, rfl⟩, (⟨xs, hS, hi, hl, hk⟩ | ⟨pre, c, hi, hl, hk⟩)⟩
      · exact ⟨none, _, by have := run_endLoop (P := P) hl (by rw [hrec]; simp); rw [hrec] at this; exact this, hdone _ xs _ (Nat.le_refl _) hS (hI.putObj _ hi (Nat.le_succ _) hl rfl) ((World.putObj_heap_other (by omega)).trans hk)⟩
      · exact ⟨some c, _, by have := run_endLoop (P := P) hl (by rw [hrec]; simp); rw [hrec] at this; exact this, hstop _ c pre _ (Nat.le_refl _) ((hIx c).putObj _ hi (Nat.le_succ _) hl rfl) ((World.putObj_heap_other (by omega)).trans hk)⟩
/-- .. where the assigned variables lie in the frame -/
theorem wpIn_iter_moves {α : Type} {F : Fence} {n : Nat} {P : Program} {g : Operand} {ps : Array Tmp} {assign body : Code} {Q : Exit → Act → World → Prop} {a : Act} {w : World}
    (hro : F.round = none) (h1 : 1 ≤ n) {gf : Nat} {lb : Array Value} (hg : a.eval g = .func (.func gf) #[] lb) (hFg : F.fn gf) (eg : ∀ args w, (callFunc gf args).run P w = .ok (.enter gf args) w)
    {encs : α → Array Value} {G : List α → α → Prop} {S : List α → Prop} (I : List α → World → Prop) (hseq : SeqI F (n - 1) P gf lb encs I G S w)
    (hps : ∀ x, (encs x).size = ps.size) (Ix : Code → List α → World → Prop) (hI : OwnFrom w.heap.size I) (hIx : ∀ c, OwnFrom w.heap.size (Ix c)) (h0 : I [] w) (A1 : Act → α → Act)
    (hassign : ∀ (l : Nat) (x : α) (W : World) (K : Act → World → Prop), K (A1 a x) W →
      assign.wpIn (F.inRound l) (n - 1 - 1) P (Exit.then K (fun _ _ _ => False)) { tmps := (ps.zip (encs x)).foldl (fun t (p, v) => t.setIfInBounds p v) a.tmps, defers := [] } W)
    (hbody : ∀ (l : Nat) (pre : List α) (x : α) (W : World), w.heap.size ≤ l → I pre W → G pre x → body.wpIn (F.inRound l) (n - 1 - 1) P (roundPost w.heap.size I Ix (pre ++ [x]) W) (A1 a x) W)
    (hdone : ∀ (D : Nat) (xs : List α) (W : World), w.heap.size ≤ D → S xs → I xs W → W.heap[D]? = some (.deferred (some [])) → Q .normal { a with defers := { target := .collected D, args := #[] } :: a.defers } W)
    (hstop : ∀ (D : Nat) (c : Code) (pre : List α) (W : World), w.heap.size ≤ D → Ix c pre W → W.heap[D]? = some (.deferred (some [])) → c.wpIn F n P Q { a with defers := { target := .collected D, args := #[] } :: a.defers } W) :
    (Code.rangeFunc g ps assign body).wpIn F n P Q a w :=
  wpIn_iter hro h1 hg hFg eg I hseq hps Ix hI hIx h0 (fun x a' _ => a' = A1 a x) (fun _ _ _ _ _ _ h _ _ => h)
    (fun l _ x W _ hi _ hK => hassign l x W _ (hK _ _ (KeepsFrom.refl _ _) hi rfl)) (fun l pre x a' W hl hi ha hG => by subst ha; exact hbody l pre x W hl hi hG) hdone hstop
end Go.Proofs.YtpaecmpiokkdnaaDoor

namespace Go.Proofs.YtpaecmpiokkdnaaDoor
open Go.RowKit Go.Sort Go.Shelf
attribute [local go_sem] cell_grow frozen_grow size_grow Oper.semAt_some

theorem wide_any' (d : Nat) : Fence.wide.depth.isSome = true → 1 ≤ d := fun h => by simp [Fence.wide] at h
/-- the handle of a slot -/
def hndI (st : List Slt) (i : Nat) : Int := ((st.getD i (0, false, undef)).1 : Int) * 65536 + i
/-- the slots below k that are alive -/
def alvL (st : List Slt) (k : Nat) : List Nat := (List.range k).filter fun j => (st.getD j (0, false, undef)).2.1
theorem alvL_lt {st : List Slt} {k j : Nat} (h : j ∈ alvL st k) : j < k := List.mem_range.1 (List.mem_filter.1 h).1
theorem alvL_succ (st : List Slt) (k : Nat) : alvL st (k + 1) = alvL st k ++ (if (st.getD k (0, false, undef)).2.1 then [k] else []) := by
  unfold alvL
  rw [List.range_succ, List.filter_append]
  congr 1
  simp only [List.filter_cons, List.filter_nil]
theorem alvL_yes {st : List Slt} {k : Nat} (h : (st.getD k (0, false, undef)).2.1 = true) : alvL st (k + 1) = alvL st k ++ [k] := by rw [alvL_succ, if_pos h]
theorem alvL_no {st : List Slt} {k : Nat} (h : (st.getD k (0, false, undef)).2.1 = false) : alvL st (k + 1) = alvL st k := by rw [alvL_succ, if_neg (by rw [h]; simp), List.append_nil]
abbrev encAll (st : List Slt) (i : Nat) : Array Value := #[.int .i64 (hndI st i), (st.getD i (0, false, undef)).2.2]
/-- what is handed over -/
def GAll (st : List Slt) (pre : List Nat) (i : Nat) : Prop := pre = alvL st i ∧ i < st.length ∧ (st.getD i (0, false, undef)).2.1 = true
def SAll (st : List Slt) (xs : List Nat) : Prop := xs = alvL st st.length

theorem all_ok (p : Option Addr) (w : World) : Calls Tryd.prog 22 #[.pointer p] w fun e w' => e = .returned (.func (.func 57) #[] #[.pointer (some ⟨w.heap.size, 0, none⟩)]) ∧ w.alloc (.cells #[.pointer p] 24) = w' := by
  go_enter Tryd.func22, Tryd.ntmps22
  go_wp2
  go_ret
  exact ⟨rfl, rfl⟩

/-- what the loop keeps for the iterator -/
def KeepT (B p q Bt : Nat) (st : List Slt) (pre : List Nat) (W : World) : Prop :=
  ∃ st', Int.TT W B p q st' ∧ st'.length = st.length ∧ (∀ j, j ∉ pre → st'.getD j (0, false, undef) = st.getD j (0, false, undef)) ∧ W.cell? ⟨Bt, 0, none⟩ = some (.pointer (some ⟨p, 0, none⟩))
theorem yform {R S : World → Prop} {e : Ending} {W : World} (h : (e = .returned (.bool true) ∧ R W) ∨ (e = .returned (.bool false) ∧ S W)) : ∃ b, e = .returned (.bool b) ∧ Hid ((b = true → R W) ∧ (b = false → S W)) := by
  rcases h with ⟨h1, h2⟩ | ⟨h1, h2⟩
  · exact ⟨true, h1, Lib.hid ⟨(fun _ => h2), (fun h => by cases h)⟩⟩
  · exact ⟨false, h1, Lib.hid ⟨(fun h => by cases h), (fun _ => h2)⟩⟩

set_option maxRecDepth 100000 in
set_option maxHeartbeats 3200000 in
theorem all_seq (d B p q Bt : Nat) (st : List Slt) (I : List Nat → World → Prop) (hI : ∀ pre W, I pre W → KeepT B p q Bt st pre W) (hg : ∀ j, j < st.length → (st.getD j (0, false, undef)).1 ≤ 65535) (hv : ∀ j, j < st.length → ∃ z : Int, (st.getD j (0, false, undef)).2.2 = .int .i64 z) (w : World) :
    SeqI Fence.wide d Tryd.prog 57 #[.pointer (some ⟨Bt, 0, none⟩)] (encAll st) I (GAll st) (SAll st) w := by
  intro l J Jx W _ hJ _ hJI hY h0
  obtain ⟨st0, ht0, hl0, _, hc0⟩ := hI _ _ (hJI _ _ h0)
  obtain ⟨n, hn⟩ : ∃ n, st.length = n := ⟨_, rfl⟩
  have n2 := ht0.n2
  have c9 := Tb.c0 ht0
  have HM := Lib.hid (Int.made_ok W ht0)
  rw [hl0, hn] at c9 n2
  have HN := Lib.hid hn
  clear ht0 hn hl0
  refine callsIn_of_wp Tryd.func57 rfl trivial ?_ rfl
  simp only [Tryd.ntmps57, List.size_toArray, List.length_cons, List.length_nil, Nat.reduceAdd, Nat.reduceSub, Array.replicate_succ, Array.replicate_zero, List.push_toArray, List.append_toArray, List.nil_append, List.cons_append]
  gi_wp2_with (refine ⟨trivial, wide_any' _, (callsIn_wide.2 HM.out).mono ?_⟩; rintro e w1 ⟨rfl, rfl⟩)
  gi_loopw [13] (fun i wr => ∃ k : Nat, i = .int .i64 k ∧ k ≤ n ∧ Hid (J (alvL st k) wr)) (fun i _ => n - (intOf i).toNat)
  case atStart => exact ⟨0, rfl, Nat.zero_le _, Lib.hid h0⟩
  case round =>
    clear c9 hc0
    obtain ⟨k, rfl, hk, HJ⟩ := hrel
    by_cases hlt : k < n
    · obtain ⟨st1, ht1, hl1, hs1, c1⟩ := hI _ _ (hJI _ _ HJ.out)
      have hlt1 : k < st1.length := by have := HN.out; omega
      have hk1 := hs1 k (fun h => by have := alvL_lt h; omega)
      have hhd := Int.handle_ok k _ wr.drew ⟨ht1.hp, ht1.hq, ht1.ne, ht1.n1, ht1.n2, ht1.tbl, ht1.slots, ht1.rb⟩ hlt1 rfl (by rw [hk1]; exact hg k (by have := HN.out; omega))
      have c0 := Tb.c0 ht1
      have s0 := Tb.s0 ht1 hlt1
      have s1 := Tb.s1 ht1 hlt1
      have s2 := Tb.s2 ht1 hlt1
      rw [hk1] at s0 s1 s2 hhd
      rw [hl1, HN.out] at c0
      obtain ⟨z, hz⟩ := hv k (by have := HN.out; omega)
      obtain ⟨⟨g, al, v⟩, hS⟩ : ∃ S, st.getD k (0, false, undef) = S := ⟨_, rfl⟩
      rw [hS] at s0 s1 s2 hz hhd
      dsimp only at s0 s1 s2 hz hhd
      subst hz
      have hlb : decide (k < n) = true := by simpa using hlt
      have hli : (k : Int) < (n : Int) := by omega
      have hk0 : (0 : Int) ≤ (k : Int) := by omega
      have HS := Lib.hid hS
      have HH := Lib.hid hhd
      clear ht1 hl1 hs1 hk1 hS hhd
      cases al with
      | true =>
        have hJd : J (alvL st k) wr.drew := hJ _ _ _ none HJ.out ⟨rfl, rfl, rfl, Nat.le_refl _, fun _ _ _ => rfl⟩ (fun r e => by cases e)
        obtain ⟨fn, tmps, assign, body, hy, hR⟩ := hY (alvL st k) k wr.drew hJd ⟨rfl, by rw [HN.out]; exact hlt, by rw [HS.out]⟩
        have hxe : encAll st k = #[.int .i64 ((g : Int) * 65536 + k), .int .i64 z] := by unfold encAll hndI; rw [HS.out]
        rw [hxe] at hy
        clear hxe hJd
        gi_wp2
        gi_region_with (first
          | (refine ⟨trivial, wide_any' _, (callsIn_wide.2 HH.out).mono ?_⟩; rintro e w1 ⟨rfl, rfl⟩)
          | (refine ⟨wide_any' _, hR.mono ?_⟩; intro e W3 hW3; obtain ⟨b, rfl, HBB⟩ := yform hW3; clear hW3))
        all_goals
          cases b with
          | true =>
            have HX := Lib.hid (HBB.out.1 rfl)
            clear HBB
            gi_wp2
            go_roundw
            case rel => exact ⟨k + 1, by go_num, by omega, Lib.hid (by rw [alvL_yes (by rw [HS.out])]; exact HX.out)⟩
            case measure => simp [intOf]; omega
          | false =>
            have HX := Lib.hid (HBB.out.2 rfl)
            clear HBB
            gi_wp2
            refine bodyPost_ret (results_none rfl _ _ _) rfl ?_
            exact ⟨⟨_, rfl⟩, .inr ⟨_, HX.out⟩⟩
      | false =>
        gi_wp2
        refine wpIn_region_quiet_lit rfl (by kernel_rfl) (by kernel_rfl) ?_
        repeat (refine wpQuietIn_step (by first | quiet_asked_in | (intros; trivial) | (unfold Oper.askedIn; intros; trivial)) (fun K hK => ?_); go_simp; refine hK _ ?_; clear hK K)
        refine wpQuietIn_nil ?_
        intro _ hw'
        obtain ⟨nq, hw''⟩ := hw'
        subst hw''
        gi_wp2
        go_roundw
        case rel => exact ⟨k + 1, by go_num, by omega, Lib.hid (by
          rw [alvL_no (by rw [HS.out])]
          exact hJ _ _ _ none HJ.out ⟨rfl, rfl, rfl, Nat.le_refl _, fun _ _ _ => rfl⟩ (fun r e => (by cases e)))⟩
        case measure => simp [intOf]; omega
    · have hlb : decide (k < n) = false := by simpa using hlt
      obtain rfl : k = n := by omega
      gi_wp2
      go_end0
      exact ⟨⟨_, rfl⟩, .inl ⟨_, by unfold SAll; rw [HN.out], HJ.out⟩⟩
end Go.Proofs.YtpaecmpiokkdnaaDoor

namespace Go.Proofs.YtpaecmpiokkdnaaDoor.Int
open Go.RowKit Go.Sort Go.Joins
attribute [local go_sem] cell_grow frozen_grow size_grow

section
variable {B p q : Nat} {st : List Slt}
theorem len_ok (w : World) (h : TT w B p q st) : Calls Tryd.prog 24 #[.pointer (some ⟨p, 0, none⟩)] w fun e w' => e = .returned (.int .i64 ((st.countP alv : Nat) : Int)) ∧ w = w' := by
  have c3 := Tb.c3 h
  have HM := Lib.hid (made_ok w h)
  obtain ⟨m, hm⟩ : ∃ m, st.countP alv = m := ⟨_, rfl⟩
  rw [hm] at c3 ⊢
  clear hm h
  go_enter Tryd.func24, Tryd.ntmps24
  go_wp2_with fail
  refine HM.out.mono ?_
  rintro e w1 ⟨rfl, rfl⟩
  go_wp2
  go_ret
  exact ⟨rfl, rfl⟩
theorem set_err (h : Int) (x : Int) (w : World) (H : TT w B p q st) (he : findE st h ≠ 0) :
    Calls Tryd.prog 27 #[.pointer (some ⟨p, 0, none⟩), .int .i64 h, (.int .i64 x)] w fun e w' => e = .returned (.int .i64 (findE st h)) ∧ w = w' := by
  have HF := Lib.hid (find_ok h w H)
  have hb := bne0_true he
  clear he H
  go_enter Tryd.func27, Tryd.ntmps27
  go_wp2_with fail
  refine HF.out.mono ?_
  rintro e w1 ⟨rfl, rfl⟩
  go_wp2
  go_ret
  exact ⟨rfl, rfl⟩
theorem set_same_alv {i : Nat} (hlt : i < st.length) (v : Value) : (st.set i ((st.getD i (0, false, undef)).1, (st.getD i (0, false, undef)).2.1, v)).countP alv = st.countP alv ∧ rdyF (st.set i ((st.getD i (0, false, undef)).1, (st.getD i (0, false, undef)).2.1, v)) = rdyF st := by
  constructor
  · have := countP_at hlt ((st.getD i (0, false, undef)).1, (st.getD i (0, false, undef)).2.1, v)
    dsimp only at this
    omega
  · rw [← rdyF_set _ hlt]
    funext j
    unfold filled
    by_cases hj : i ≤ j ∧ j < i + 1
    · obtain rfl : j = i := by omega
      rw [if_pos hj]
      unfold rdyF
      simp [hlt, rdy]
    · rw [if_neg hj]
theorem set_ok (h : Int) (i : Nat) (x : Int) (w : World) (H : TT w B p q st) (he : findE st h = 0) (hi : slotI h = i) :
    Calls Tryd.prog 27 #[.pointer (some ⟨p, 0, none⟩), .int .i64 h, (.int .i64 x)] w fun e w' => e = .returned (.int .i64 0) ∧ TT w' B p q (st.set i ((st.getD i (0, false, undef)).1, (st.getD i (0, false, undef)).2.1, (.int .i64 x))) ∧ Fr p q w w' := by
  obtain ⟨i', hi', hlt, _, _⟩ := findE_zero he
  obtain rfl : i' = i := by omega
  have s2 := Tb.s2 H hlt
  have f2 := Tb.fq H
  have hF := find_ok h w H
  have hP : findP q st h = some ⟨q, i' * 3, none⟩ := by unfold findP; rw [if_pos he, hi]; rfl
  rw [hP, he] at hF
  have HF := Lib.hid hF
  have HX := Lib.hid (Tb.valued H u_slot hlt ((.int .i64 x)))
  have HY := Lib.hid (set_same_alv hlt ((.int .i64 x)))
  obtain ⟨v, hv⟩ : ∃ v, v = (st.getD i' (0, false, undef)).2.2 := ⟨_, rfl⟩
  rw [← hv] at s2
  clear hF hP he H hv hi hi'
  go_enter Tryd.func27, Tryd.ntmps27
  go_wp2_with fail
  refine HF.out.mono ?_
  rintro e w1 ⟨rfl, rfl⟩
  go_wp2
  go_ret
  exact ⟨rfl, Tg.of HX.out HY.out.1.symm HY.out.2.symm, Fr.setQ _ _ _⟩
end
end Go.Proofs.YtpaecmpiokkdnaaDoor.Int

namespace Go.Proofs.YtpaecmpiokkdnaaDoor.Str
open Go.RowKit Go.Sort Go.Joins
attribute [local go_sem] cell_grow frozen_grow size_grow

abbrev TBL : TypeId := 114
abbrev SLOT : TypeId := 117
theorem u_slot : 144 ≠ SLOT := by decide
theorem u_tbl : 144 ≠ TBL := by decide

theorem made_ok {B p q : Nat} {st : List Slt} {m : Nat} {r : Nat → Bool} (w : World) (h : Tb 114 117 w B p q st m r) :
    Calls Tryd.prog 59 #[.pointer (some ⟨p, 0, none⟩)] w fun e w' => e = .returned (.bool true) ∧ w = w' := by
  have c0 := h.c0
  have n1 := h.n1
  have d1 : decide (0 < st.length) = true := by simp; omega
  go_enter Tryd.func59, Tryd.ntmps59
  go_wp2
  go_ret
  exact ⟨rfl, rfl⟩

theorem handle_ok {B p q : Nat} {st : List Slt} {m : Nat} {r : Nat → Bool} (i g : Nat) (w : World) (h : Tb 114 117 w B p q st m r) (hi : i < st.length) (hg : (st.getD i (0, false, undef)).1 = g) (hg2 : g ≤ 65535) :
    Calls Tryd.prog 61 #[.pointer (some ⟨p, 0, none⟩), .int .i64 i] w fun e w' => e = .returned (.int .i64 ((g : Int) * 65536 + i)) ∧ w = w' := by
  have c0 := h.c0
  have n2 := h.n2
  have s0 := h.s0 hi
  rw [hg] at s0
  have i0 : (0 : Int) ≤ (i : Int) := by omega
  have i1 : (i : Int) < (st.length : Int) := by omega
  clear hg h
  go_enter Tryd.func61, Tryd.ntmps61
  go_wp2
  go_ret
  exact ⟨rfl, rfl⟩

end Go.Proofs.YtpaecmpiokkdnaaDoor.Str

namespace Go.Proofs.YtpaecmpiokkdnaaDoor.Str
open Go.RowKit Go.Sort Go.Joins
attribute [local go_sem] cell_grow frozen_grow size_grow

theorem info_slot : (Tryd.prog.info? 117).map (fun i => (i.zero, i.size, i.bytes)) = some (some (.agg #[.int .i64 0, .bool false, .string ⟨#[]⟩]), 3, 32) := by kernel_rfl

theorem run_make_slots (n : Nat) (hn : n ≤ 1024) (w : World) :
    (Instr.makeSlice 112 (.int .i64 (n : Int)) (.int .i64 (n : Int))).run Tryd.prog w = .ok (.slice (some ⟨w.heap.size, 0, none⟩) n n) (w.alloc (.cells (slotCells (List.replicate n (0, false, .string ⟨#[]⟩))).toArray 117)) := by
  obtain ⟨i0, hi, hz0, hz1, hz2⟩ := info_parts info_slot
  have h := run_make (P := Tryd.prog) w 112 117 i0 _ Tryd.underlying112 hi hz0 .i64 .i64 n n (by omega) (by omega) (by rw [hz2]; omega) (by omega)
  have e : madeCells #[.int .i64 0, .bool false, .string ⟨#[]⟩] (n * 3) = (slotCells (List.replicate n (0, false, .string ⟨#[]⟩))).toArray := by rw [← made_slots]
  rw [h, Int.toNat_natCast, hz1]
  exact congrArg (fun c => Result.ok (Value.slice (some ⟨w.heap.size, 0, none⟩) n n) (w.alloc (.cells c 117))) e

set_option maxHeartbeats 1600000 in
theorem new_bad (N : Int) (w : World) (h : N < 1 ∨ 1024 < N) :
    Calls Tryd.prog 29 #[.int .i64 N] w fun e w' => e = .returned (.tuple #[.pointer none, .int .i64 7]) ∧ w = w' := by
  by_cases h1 : N < 1
  · go_enter Tryd.func29, Tryd.ntmps29
    go_wp2
    go_ret2
    exact ⟨rfl, rfl⟩
  · have h2 : 1024 < N := by omega
    clear h
    go_enter Tryd.func29, Tryd.ntmps29
    go_wp2
    go_ret2
    exact ⟨rfl, rfl⟩

set_option maxRecDepth 100000 in
set_option maxHeartbeats 1600000 in
theorem new_ok (n : Nat) (w : World) (h1 : 1 ≤ n) (h2 : n ≤ 1024) :
    Calls Tryd.prog 29 #[.int .i64 n] w fun e w' => e = .returned (.tuple #[.pointer (some ⟨w.heap.size + 1, 0, none⟩), .int .i64 0]) ∧
      Tb 114 117 w' w.heap.size (w.heap.size + 1) w.heap.size (List.replicate n (0, false, .string ⟨#[]⟩)) 0 (fun i => decide (i < n)) ∧ Below w.heap.size w w' := by
  have hmk := run_make_slots n h2
  obtain ⟨cs, hcs⟩ : ∃ cs, cs = (slotCells (List.replicate n ((0, false, .string ⟨#[]⟩) : Slt))).toArray := ⟨_, rfl⟩
  rw [← hcs] at hmk
  have HC := Lib.hid hcs
  clear hcs
  have HF := Lib.hid (bNew_ok n true ((w.alloc (.cells cs 117)).alloc (.cells #[.slice (some ⟨w.heap.size, 0, none⟩) n n, .int .i64 0, .slice none 0 0, .int .i64 0] 114)) (by omega))
  go_enter Tryd.func29, Tryd.ntmps29
  go_wp2_with fail
  refine HF.out.mono ?_
  rintro e w1 ⟨a, cap, rfl, hown, hb⟩
  have b1 : w1.heap[w.heap.size + 1]? = some (.cells #[.slice (some ⟨w.heap.size, 0, none⟩) n n, .int .i64 0, .slice none 0 0, .int .i64 0] 114 (0, 0)) := by
    rw [hb.block _ (by simp)]
    have := heap_alloc_new (w.alloc (.cells cs 117)) (.cells #[.slice (some ⟨w.heap.size, 0, none⟩) n n, .int .i64 0, .slice none 0 0, .int .i64 0] 114)
    rwa [World.size_alloc] at this
  have b0 : w1.heap[w.heap.size]? = some (.cells cs 117 (0, 0)) := by
    rw [hb.block _ (by simp; omega), Below.heap_alloc _ _ _ (by simp)]
    exact heap_alloc_new w _
  have p1 : w1.cell? ⟨w.heap.size + 1, 1, none⟩ = some (.int .i64 0) := by rw [cell_of_block b1]; rfl
  have p2 : w1.cell? ⟨w.heap.size + 1, 2, none⟩ = some (.slice none 0 0) := by rw [cell_of_block b1]; rfl
  have p3 : ∀ j, w1.frozen? ⟨w.heap.size + 1, j, none⟩ = false := fun j => unfrozen_of_block b1 j
  have HB1 := Lib.hid b1
  have HB0 := Lib.hid b0
  have HO := Lib.hid hown
  have HB := Lib.hid hb
  clear b1 b0 hown hb
  go_wp2
  go_ret2
  refine ⟨rfl, ?_, ((((Below.refl w.heap.size w).alloc (Nat.le_refl _) _).alloc (by simp) _).trans (HB.out.mono (by simp; omega))).setCell (p := ⟨w.heap.size + 1, 1, none⟩) (by simp) _ |>.setCell (p := ⟨w.heap.size + 1, 2, none⟩) (by simp) _⟩
  have o2 := own_ne HO.out HB1.out u_tbl
  refine ⟨by omega, Nat.le_refl _, by omega, by simpa using h1, by simpa using h2, ⟨a, cap, ?_, ?_⟩, ?_, fun i hi => by simp at hi; simp; omega⟩
  · rw [setCell_block (setCell_block HB1.out _) _]; simp
  · rw [List.length_replicate]
    have := ownsRow_setCell_other (ownsRow_setCell_other HO.out (a := ⟨w.heap.size + 1, 1, none⟩) o2 (.int .i64 (n : Int))) (a := ⟨w.heap.size + 1, 2, none⟩) o2 (.slice a ((n + 63) / 64) cap)
    exact ownsRow_le this (by simp; omega)
  · rw [Below.heap_setCell _ _ _ _ (by dsimp only; omega), Below.heap_setCell _ _ _ _ (by dsimp only; omega), HB0.out, HC.out]
end Go.Proofs.YtpaecmpiokkdnaaDoor.Str

namespace Go.Proofs.YtpaecmpiokkdnaaDoor.Str
open Go.RowKit Go.Sort Go.Joins
attribute [local go_sem] cell_grow frozen_grow size_grow

theorem rdy_f (g : Nat) (v : Value) : decide ((g : Int) < 65535) = rdy (g, false, v) := by
  simp only [rdy, Bool.not_false, Bool.true_and]
  exact decide_eq_decide.2 (by omega)
theorem rdy_t (g : Nat) (v : Value) : false = rdy (g, true, v) := by simp [rdy]

set_option maxRecDepth 100000 in
set_option maxHeartbeats 1600000 in
theorem note_ok {B p q : Nat} {st : List Slt} {m : Nat} {r : Nat → Bool} (i : Nat) (w : World) (h : Tb 114 117 w B p q st m r) (hB : B ≤ w.heap.size) (hi : i < st.length) :
    Calls Tryd.prog 60 #[.pointer (some ⟨p, 0, none⟩), .int .i64 i] w fun e w' => e = .returned (.tuple #[]) ∧ Tb 114 117 w' B p q st m (filled r i (i + 1) (rdy (st.getD i (0, false, undef)))) ∧ Fr p q w w' := by
  have c0 := h.c0
  have c1 := h.c1
  obtain ⟨ra, rcap, c2, hsl⟩ := h.c2
  have n2 := h.n2
  have s0 := h.s0 hi
  have s1 := h.s1 hi
  have hc := h.chk0
  have f1 := h.fp
  have hpl : p < w.heap.size := World.block_lt_of_cell? _ _ c1
  obtain ⟨⟨g, al, v⟩, hS⟩ : ∃ S, S = st.getD i (0, false, undef) := ⟨_, rfl⟩
  rw [← hS] at s0 s1 ⊢
  dsimp only at s0 s1
  have i0 : (0 : Int) ≤ (i : Int) := by omega
  have i1 : (i : Int) < (st.length : Int) := by omega
  have H := Lib.hid h
  have e1 : ((i + 1 : Nat) : Int) = (i : Int) + 1 := by omega
  have hsl' : SlK .u64 w.drew ra ((st.length + 63) / 64) (pack r ((st.length + 63) / 64)) := ⟨hsl.length, hsl.cells⟩
  have hwr : IntKind.i64.wrap ((i : Int) + 1) = (i : Int) + 1 := IntWalk.i64_in _ (by omega)
  have hF := fun b => bSet_ok st.length i (i + 1) b ra ((st.length + 63) / 64) rcap _ w.drew hsl' (pack_lt _ _) hc (by omega) (by omega)
  rw [e1] at hF
  have HF := Lib.hid hF
  clear hc hS h e1 hsl hsl' hF
  cases al
  · go_enter Tryd.func60, Tryd.ntmps60
    go_wp2
    first | go_region_with ((go_at_call 80; refine (HF.out (decide ((g : Int) < 65535))).mono ?_; rintro e w' ⟨a', cap', rfl, hown, hbl⟩; have p1 : w'.cell? ⟨p, 1, none⟩ = some (.int .i64 (st.length : Int)) := cell_later hbl c1; have p2 : w'.cell? ⟨p, 2, none⟩ = some (.slice ra ((st.length + 63) / 64) rcap) := cell_later hbl c2; have p3 : ∀ j, w'.frozen? ⟨p, j, none⟩ = false := fun j => (hbl.frozen (p := ⟨p, j, none⟩) hpl).trans (f1 j))) | fail
    all_goals go_end0
    all_goals exact ⟨rfl, H.out.noted' u_tbl hi hB (rdy_f _ _) hbl hown⟩
  · go_enter Tryd.func60, Tryd.ntmps60
    go_wp2
    first | go_region_with ((go_at_call 80; refine (HF.out false).mono ?_; rintro e w' ⟨a', cap', rfl, hown, hbl⟩; have p1 : w'.cell? ⟨p, 1, none⟩ = some (.int .i64 (st.length : Int)) := cell_later hbl c1; have p2 : w'.cell? ⟨p, 2, none⟩ = some (.slice ra ((st.length + 63) / 64) rcap) := cell_later hbl c2; have p3 : ∀ j, w'.frozen? ⟨p, j, none⟩ = false := fun j => (hbl.frozen (p := ⟨p, j, none⟩) hpl).trans (f1 j))) | fail
    all_goals go_end0
    all_goals exact ⟨rfl, H.out.noted' u_tbl hi hB (rdy_t _ _) hbl hown⟩
end Go.Proofs.YtpaecmpiokkdnaaDoor.Str

namespace Go.Proofs.YtpaecmpiokkdnaaDoor.Str
open Go.RowKit Go.Sort Go.Joins
attribute [local go_sem] cell_grow frozen_grow size_grow

set_option maxRecDepth 100000 in
set_option maxHeartbeats 1600000 in
theorem put_ok {B p q : Nat} {st : List Slt} {m : Nat} {r : Nat → Bool} (i g : Nat) (x : ByteArray) (w : World) (h : Tb 114 117 w B p q st m r) (hT : Tab w)
    (hi : nxt r 0 st.length = i) (hlt : i < st.length) (hg : (st.getD i (0, false, undef)).1 = g) (hg2 : g < 65535) (hm : m ≤ 100000) :
    Calls Tryd.prog 30 #[.pointer (some ⟨p, 0, none⟩), (.string x)] w fun e w' => e = .returned (.tuple #[.int .i64 (((g : Int) + 1) * 65536 + i), .int .i64 0]) ∧
      Tb 114 117 w' B p q (st.set i (g + 1, true, (.string x))) (m + 1) (filled r i (i + 1) false) ∧ Fr p q w w' := by
  have hN := next_tb h
  rw [hi, if_pos hlt, if_pos hlt] at hN
  obtain ⟨ra, rcap, c2, hsl⟩ := h.c2
  have c1 := h.c1
  have n2 := h.n2
  have hne := h.ne
  have hBw : B ≤ w.heap.size := by have := World.block_lt_of_cell? _ _ c1; have := h.hp; dsimp only at *; omega
  have HM := Lib.hid (made_ok w h)
  have HX := Lib.hid (bNext_ok st.length 0 true ra ((st.length + 63) / 64) rcap _ w hT hsl (pack_lt _ _) (by omega))
  have HN := Lib.hid hN
  have H := Lib.hid h
  have HG := Lib.hid hg
  have i0 : (0 : Int) ≤ (i : Int) := by omega
  have i1 : (i : Int) < (st.length : Int) := by omega
  clear hN h hsl hg hi
  go_enter Tryd.func30, Tryd.ntmps30
  go_wp2_with fail
  refine HM.out.mono ?_
  rintro e w1 ⟨rfl, rfl⟩
  go_wp2_with fail
  refine HX.out.mono ?_
  rintro e W ⟨rfl, hb⟩
  rw [HN.out.1, HN.out.2]
  have hW := H.out.below hb
  have d0 := hW.c0
  have d3 := hW.c3
  have s0 := hW.s0 hlt
  have s1 := hW.s1 hlt
  have s2 := hW.s2 hlt
  have f1 := hW.fp
  have f2 := hW.fq
  rw [HG.out] at s0
  have hS := hW.stored u_slot u_tbl hlt (g + 1, true, (.string x)) (m + 1)
  dsimp only at hS
  rw [show ((g + 1 : Nat) : Int) = (g : Int) + 1 by omega, show ((m + 1 : Nat) : Int) = (m : Int) + 1 by omega] at hS
  have HS := Lib.hid hS
  have HW := Lib.hid hW
  have HB := Lib.hid hb
  clear hS hW hb c1 c2
  go_wp2_with fail
  refine (note_ok i _ HS.out (by have := HB.out.size; simp only [World.size_setCell]; omega) (by simpa using hlt)).mono ?_
  rintro e w2 ⟨rfl, ht2, hf2⟩
  have e2 : ((st.set i (g + 1, true, (.string x))).getD i (0, false, undef)) = (g + 1, true, (.string x)) := by simp [hlt]
  rw [e2, ← rdy_t] at ht2
  have HT2 := Lib.hid ht2
  have HF2 := Lib.hid hf2
  clear ht2 hf2
  go_wp2_with fail
  refine (handle_ok i (g + 1) _ HT2.out (by simpa using hlt) (by rw [e2]) (by omega)).mono ?_
  rintro e w3 ⟨rfl, rfl⟩
  go_wp2
  go_ret2
  exact ⟨rfl, HT2.out, (((((Fr.of_below HB.out).trans (Fr.setQ _ _ _)).trans (Fr.setQ _ _ _)).trans (Fr.setQ _ _ _)).trans (Fr.setP _ _ _)).trans HF2.out⟩

set_option maxRecDepth 100000 in
set_option maxHeartbeats 1600000 in
theorem put_full {B p q : Nat} {st : List Slt} {m : Nat} {r : Nat → Bool} (x : ByteArray) (w : World) (h : Tb 114 117 w B p q st m r) (hT : Tab w) (hlt : ¬ nxt r 0 st.length < st.length) :
    Calls Tryd.prog 30 #[.pointer (some ⟨p, 0, none⟩), (.string x)] w fun e w' => e = .returned (.tuple #[.int .i64 0, .int .i64 5]) ∧ Below w.heap.size w w' := by
  have hN := next_tb h
  rw [if_neg hlt, if_neg hlt] at hN
  obtain ⟨ra, rcap, c2, hsl⟩ := h.c2
  have c1 := h.c1
  have n2 := h.n2
  have HM := Lib.hid (made_ok w h)
  have HX := Lib.hid (bNext_ok st.length 0 true ra ((st.length + 63) / 64) rcap _ w hT hsl (pack_lt _ _) (by omega))
  have HN := Lib.hid hN
  clear hN h hsl hlt
  go_enter Tryd.func30, Tryd.ntmps30
  go_wp2_with fail
  refine HM.out.mono ?_
  rintro e w1 ⟨rfl, rfl⟩
  go_wp2_with fail
  refine HX.out.mono ?_
  rintro e W ⟨rfl, hb⟩
  rw [HN.out.1, HN.out.2]
  have HB := Lib.hid hb
  clear hb
  go_wp2_with fail
  go_ret2
  exact ⟨rfl, HB.out⟩
end Go.Proofs.YtpaecmpiokkdnaaDoor.Str

namespace Go.Proofs.YtpaecmpiokkdnaaDoor.Str
open Go.RowKit Go.Sort Go.Joins
attribute [local go_sem] cell_grow frozen_grow size_grow

set_option maxRecDepth 100000 in
set_option maxHeartbeats 3200000 in
theorem find_ok {B p q : Nat} {st : List Slt} {m : Nat} {r : Nat → Bool} (h : Int) (w : World) (H : Tb 114 117 w B p q st m r) :
    Calls Tryd.prog 62 #[.pointer (some ⟨p, 0, none⟩), .int .i64 h] w fun e w' => e = .returned (.tuple #[.pointer (findP q st h), .int .i64 (findE st h)]) ∧ w = w' := by
  have c0 := H.c0
  have n2 := H.n2
  have HM := Lib.hid (made_ok w H)
  have HX := Lib.hid (slot_ok h w)
  by_cases h1 : slotI h < 0
  · have R := Lib.hid (find_none (q := q) (st := st) (.inl h1))
    have d1 : decide (slotI h < 0) = true := by simpa using h1
    clear H h1
    go_enter Tryd.func62, Tryd.ntmps62
    go_wp2_with fail
    refine HM.out.mono ?_
    rintro e w1 ⟨rfl, rfl⟩
    go_wp2_with fail
    refine HX.out.mono ?_
    rintro e w1 ⟨rfl, rfl⟩
    go_wp2
    go_ret2
    exact ⟨ret_ptr R.out, rfl⟩
  obtain ⟨i, hi⟩ := Int.eq_ofNat_of_zero_le (by omega : 0 ≤ slotI h)
  have d1 : decide ((i : Int) < 0) = false := by simp
  by_cases h2 : st.length ≤ i
  · have R := Lib.hid (find_none (q := q) (st := st) (h := h) (.inr (.inl (by omega))))
    have d2 : decide ((st.length : Int) ≤ (i : Int)) = true := by simpa using h2
    have d2' : decide (st.length ≤ i) = true := by simpa using h2
    rw [hi] at HX
    clear H h1 h2 hi
    go_enter Tryd.func62, Tryd.ntmps62
    go_wp2_with fail
    refine HM.out.mono ?_
    rintro e w1 ⟨rfl, rfl⟩
    go_wp2_with fail
    refine HX.out.mono ?_
    rintro e w1 ⟨rfl, rfl⟩
    go_wp2
    go_ret2
    exact ⟨ret_ptr R.out, rfl⟩
  have hlt : i < st.length := by omega
  have d2 : decide ((st.length : Int) ≤ (i : Int)) = false := by simp; omega
  have d2' : decide (st.length ≤ i) = false := by simp; omega
  have s0 := H.s0 hlt
  have s1 := H.s1 hlt
  obtain ⟨⟨g, al, v⟩, hS⟩ : ∃ S, S = st.getD i (0, false, undef) := ⟨_, rfl⟩
  rw [← hS] at s0 s1
  dsimp only at s0 s1
  have i0 : (0 : Int) ≤ (i : Int) := by omega
  have i1 : (i : Int) < (st.length : Int) := by omega
  by_cases h3 : (g : Int) < numI h
  · have R := Lib.hid (find_far (q := q) hi hlt (by rw [← hS]; exact h3))
    have d3 : decide ((g : Int) < numI h) = true := by simpa using h3
    rw [hi] at HX
    clear H h1 h2 h3 hi hS
    go_enter Tryd.func62, Tryd.ntmps62
    go_wp2_with fail
    refine HM.out.mono ?_
    rintro e w1 ⟨rfl, rfl⟩
    go_wp2_with fail
    refine HX.out.mono ?_
    rintro e w1 ⟨rfl, rfl⟩
    go_wp2
    go_ret2
    exact ⟨ret_ptr R.out, rfl⟩
  have d3 : decide ((g : Int) < numI h) = false := by simpa using h3
  by_cases h4 : numI h < (g : Int)
  · have R := Lib.hid (find_old (q := q) hi hlt (by rw [← hS]; exact h3) (.inl (by rw [← hS]; exact h4)))
    have d4 : decide (numI h < (g : Int)) = true := by simpa using h4
    rw [hi] at HX
    clear H h1 h2 h3 h4 hi hS
    go_enter Tryd.func62, Tryd.ntmps62
    go_wp2_with fail
    refine HM.out.mono ?_
    rintro e w1 ⟨rfl, rfl⟩
    go_wp2_with fail
    refine HX.out.mono ?_
    rintro e w1 ⟨rfl, rfl⟩
    go_wp2
    go_ret2
    exact ⟨ret_ptr R.out, rfl⟩
  have d4 : decide (numI h < (g : Int)) = false := by simpa using h4
  cases al
  · have R := Lib.hid (find_old (q := q) hi hlt (by rw [← hS]; exact h3) (.inr (by rw [← hS])))
    rw [hi] at HX
    clear H h1 h2 h3 h4 hi hS
    go_enter Tryd.func62, Tryd.ntmps62
    go_wp2_with fail
    refine HM.out.mono ?_
    rintro e w1 ⟨rfl, rfl⟩
    go_wp2_with fail
    refine HX.out.mono ?_
    rintro e w1 ⟨rfl, rfl⟩
    go_wp2
    go_ret2
    exact ⟨ret_ptr R.out, rfl⟩
  · have R := Lib.hid (find_yes (q := q) hi hlt (by rw [← hS]; exact h3) (by rw [← hS]; exact h4) (by rw [← hS]))
    rw [hi] at HX
    clear H h1 h2 h3 h4 hi hS
    go_enter Tryd.func62, Tryd.ntmps62
    go_wp2_with fail
    refine HM.out.mono ?_
    rintro e w1 ⟨rfl, rfl⟩
    go_wp2_with fail
    refine HX.out.mono ?_
    rintro e w1 ⟨rfl, rfl⟩
    go_wp2
    go_ret2
    exact ⟨ret_ptr R.out, rfl⟩
end Go.Proofs.YtpaecmpiokkdnaaDoor.Str

namespace Go.Proofs.YtpaecmpiokkdnaaDoor.Str
open Go.RowKit Go.Sort Go.Joins
attribute [local go_sem] cell_grow frozen_grow size_grow

theorem findE_zero {st : List Slt} {h : Int} (he : findE st h = 0) : ∃ i : Nat, slotI h = i ∧ i < st.length ∧ (st.getD i (0, false, undef)).2.1 = true ∧ numI h = ((st.getD i (0, false, undef)).1 : Int) := by
  unfold findE at he
  by_cases h1 : slotI h < 0 ∨ (st.length : Int) ≤ slotI h ∨ ((atH st h).1 : Int) < numI h
  · rw [if_pos h1] at he; cases he
  · rw [if_neg h1] at he
    by_cases h2 : numI h < ((atH st h).1 : Int) ∨ (atH st h).2.1 = false
    · rw [if_pos h2] at he; cases he
    · obtain ⟨i, hi⟩ := Int.eq_ofNat_of_zero_le (by omega : 0 ≤ slotI h)
      rw [atH_eq hi] at h1 h2
      refine ⟨i, hi, by omega, ?_, by omega⟩
      cases hb : (st.getD i (0, false, undef)).2.1 with
      | true => rfl
      | false => exact absurd (.inr hb) h2

set_option maxRecDepth 100000 in
set_option maxHeartbeats 1600000 in
theorem get_err {B p q : Nat} {st : List Slt} {m : Nat} {r : Nat → Bool} (h : Int) (w : World) (H : Tb 114 117 w B p q st m r) (he : findE st h ≠ 0) :
    Calls Tryd.prog 32 #[.pointer (some ⟨p, 0, none⟩), .int .i64 h] w fun e w' => e = .returned (.tuple #[.string ⟨#[]⟩, .int .i64 (findE st h)]) ∧ w = w' := by
  have HF := Lib.hid (find_ok h w H)
  have hb := bne0_true he
  clear he H
  go_enter Tryd.func32, Tryd.ntmps32
  go_wp2_with fail
  refine HF.out.mono ?_
  rintro e w1 ⟨rfl, rfl⟩
  go_wp2
  go_ret2
  exact ⟨rfl, rfl⟩
set_option maxRecDepth 100000 in
set_option maxHeartbeats 1600000 in
theorem get_ok {B p q : Nat} {st : List Slt} {m : Nat} {r : Nat → Bool} (h : Int) (w : World) (H : Tb 114 117 w B p q st m r) (he : findE st h = 0) :
    Calls Tryd.prog 32 #[.pointer (some ⟨p, 0, none⟩), .int .i64 h] w fun e w' => e = .returned (.tuple #[(st.getD (slotI h).toNat (0, false, undef)).2.2, .int .i64 0]) ∧ w = w' := by
  obtain ⟨i, hi, hlt, _, _⟩ := findE_zero he
  have s2 := H.s2 hlt
  have hF := find_ok h w H
  have hP : findP q st h = some ⟨q, i * 3, none⟩ := by unfold findP; rw [if_pos he, hi]; rfl
  rw [hP, he] at hF
  have HF := Lib.hid hF
  obtain ⟨v, hv⟩ : ∃ v, v = (st.getD i (0, false, undef)).2.2 := ⟨_, rfl⟩
  rw [← hv] at s2
  have e : (st.getD (slotI h).toNat (0, false, undef)).2.2 = v := by rw [hi, hv]; rfl
  rw [e]
  clear hF hP he H hv e hi
  go_enter Tryd.func32, Tryd.ntmps32
  go_wp2_with fail
  refine HF.out.mono ?_
  rintro e w1 ⟨rfl, rfl⟩
  go_wp2
  go_ret2
  exact ⟨rfl, rfl⟩

set_option maxRecDepth 100000 in
set_option maxHeartbeats 1600000 in
theorem drop_err {B p q : Nat} {st : List Slt} {m : Nat} {r : Nat → Bool} (h : Int) (w : World) (H : Tb 114 117 w B p q st m r) (he : findE st h ≠ 0) :
    Calls Tryd.prog 31 #[.pointer (some ⟨p, 0, none⟩), .int .i64 h] w fun e w' => e = .returned (.tuple #[.string ⟨#[]⟩, .int .i64 (findE st h)]) ∧ w = w' := by
  have HF := Lib.hid (find_ok h w H)
  have hb := bne0_true he
  have hmf : ∀ (fn : Fn) (first cap : Array Value) (w : World), (Instr.makeFunc fn first cap).run Tryd.prog w = .ok (.func fn first cap) w := fun _ _ _ _ => rfl
  clear he H
  go_enter Tryd.func31, Tryd.ntmps31
  go_wp2_with fail
  refine HF.out.mono ?_
  rintro e w1 ⟨rfl, rfl⟩
  go_wp2
  go_ret2
  exact ⟨rfl, rfl⟩

set_option maxRecDepth 100000 in
set_option maxHeartbeats 1600000 in
theorem drop_ok {B p q : Nat} {st : List Slt} {m : Nat} {r : Nat → Bool} (h : Int) (i g : Nat) (w : World) (H : Tb 114 117 w B p q st (m + 1) r) (he : findE st h = 0) (hi : slotI h = i) (hg : (st.getD i (0, false, undef)).1 = g) (hm : m ≤ 100000) :
    Calls Tryd.prog 31 #[.pointer (some ⟨p, 0, none⟩), .int .i64 h] w fun e w' => e = .returned (.tuple #[(st.getD i (0, false, undef)).2.2, .int .i64 0]) ∧
      Tb 114 117 w' B p q (st.set i (g, false, .string ⟨#[]⟩)) m (filled r i (i + 1) (rdy (g, false, .string ⟨#[]⟩))) ∧ Fr p q w w' := by
  obtain ⟨i', hi', hlt, _, _⟩ := findE_zero he
  obtain rfl : i' = i := by omega
  have s1 := H.s1 hlt
  have s2 := H.s2 hlt
  have d3 := H.c3
  have f1 := H.fp
  have f2 := H.fq
  have hne := H.ne
  have hBw : B ≤ w.heap.size := by have := World.block_lt_of_cell? _ _ d3; have := H.hp; dsimp only at *; omega
  rw [show ((m + 1 : Nat) : Int) = (m : Int) + 1 by omega] at d3
  have hF := find_ok h w H
  have hP : findP q st h = some ⟨q, i' * 3, none⟩ := by unfold findP; rw [if_pos he, hi]; rfl
  rw [hP, he] at hF
  have HF := Lib.hid hF
  have hX := slot_ok h w
  have HH := Lib.hid H
  have HG := Lib.hid hg
  have HI := Lib.hid hi
  obtain ⟨v, hv⟩ : ∃ v, v = (st.getD i' (0, false, undef)).2.2 := ⟨_, rfl⟩
  rw [← hv] at s2 ⊢
  have hmf : ∀ (fn : Fn) (first cap : Array Value) (w : World), (Instr.makeFunc fn first cap).run Tryd.prog w = .ok (.func fn first cap) w := fun _ _ _ _ => rfl
  clear hF hP he H hv hi hi' hg hX
  go_enter Tryd.func31, Tryd.ntmps31
  go_wp2_with fail
  refine HF.out.mono ?_
  rintro e w1 ⟨rfl, rfl⟩
  go_wp2_with fail
  refine (slot_ok h _).mono ?_
  rintro e w1 ⟨rfl, rfl⟩
  rw [HI.out]
  go_wp2_with fail
  refine (note_ok i' _ (HH.out.dropped u_slot u_tbl hlt HG.out (.string ⟨#[]⟩) (m : Int) m rfl) (by simp only [World.size_setCell]; omega) (by simpa using hlt)).mono ?_
  rintro e w2 ⟨rfl, ht2, hf2⟩
  have e2 : ((st.set i' (g, false, .string ⟨#[]⟩)).getD i' (0, false, undef)) = (g, false, .string ⟨#[]⟩) := by simp [hlt]
  rw [e2] at ht2
  have HT2 := Lib.hid ht2
  have HF2 := Lib.hid hf2
  clear ht2 hf2
  go_wp2
  go_ret2
  exact ⟨rfl, HT2.out, (((Fr.setQ _ _ _).trans (Fr.setQ _ _ _)).trans (Fr.setP _ _ _)).trans HF2.out⟩
end Go.Proofs.YtpaecmpiokkdnaaDoor.Str
