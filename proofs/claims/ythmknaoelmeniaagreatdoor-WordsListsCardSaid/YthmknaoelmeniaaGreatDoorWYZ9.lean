/- Words: how long a number is, by the program. | Rows of bools of the call's own, without bits. | Words: rows of numbers of the call's own. | Words: where the two great loops of List stand. | Words: List: what is kept while the items are asked. | Regions that draw their order and only read, inside a fence, in a round as well: one walk of the text's order serves every order. No program. | Regions that draw their order, in a round of a range over a function: held cells (the kit's moves of OrdersHeld) serve there too. No program. | A walk cut at a region: the code from there on, by its number. No program. -/
import Derived.Test.YthmknaoelmeniaaGreatDoorWYZ8
import Derived.Test.YthmknaoelmeniaaGreatDoorWYZ3
import Derived.Deep.OwnRows
import Derived.Laws.OwnMore
import Derived.Test.YthmknaoelmeniaaGreatDoorWYZ2
import Derived.Test.YthmknaoelmeniaaGreatDoorWYZ6
import Derived.Sort.QuietIn
import Derived.OwnWalkIn
import Derived.OrdersHeld
import Derived.Deep.RegionHeld
import Derived.RangeFuncCalls
import Derived.Walk
import Derived.ControlIn
namespace Go.Proofs.YthmknaoelmeniaaGreatDoor
open Go.RowKit Go.Sort Go.Joins Go.Shelf
attribute [local go_sem] cell_grow frozen_grow size_grow

/-- the tables of this part -/
structure T1 (w : World) : Prop where
  tw : TW w
  ml : ML w
  tens : ∀ i, i < 3 → w.cell? ⟨0, i, none⟩ = some (.int .i64 ((10 ^ (i + 1) : Nat) : Int))
theorem T1.below {w w' : World} (h : T1 w) (hb : Below w.heap.size w w') : T1 w' := ⟨h.tw.below hb, h.ml.below hb, fun i hi => cell_later hb (h.tens i hi)⟩
def szK (n i : Nat) : Nat := 1 + (if 1 ≤ i ∧ 10 ≤ n then 1 else 0) + (if 2 ≤ i ∧ 100 ≤ n then 1 else 0) + (if 3 ≤ i ∧ 1000 ≤ n then 1 else 0)
theorem idx0 (w : World) : (Instr.index 79 (.agg #[.int .i64 10, .int .i64 100, .int .i64 1000]) (.int .i64 0)).run Tryz.prog w = .ok (.int .i64 10) w := by kernel_rfl
theorem idx1 (w : World) : (Instr.index 79 (.agg #[.int .i64 10, .int .i64 100, .int .i64 1000]) (.int .i64 1)).run Tryz.prog w = .ok (.int .i64 100) w := by kernel_rfl
theorem idx2 (w : World) : (Instr.index 79 (.agg #[.int .i64 10, .int .i64 100, .int .i64 1000]) (.int .i64 2)).run Tryz.prog w = .ok (.int .i64 1000) w := by kernel_rfl
attribute [local go_sem high] idx0 idx1 idx2
theorem dec_len10 {n : Nat} (h : 10 ≤ n) : (Lib.decDigits n).length = (Lib.decDigits (n / 10)).length + 1 := by
  rw [dec_two h, List.length_append, Lib.decDigits_one (show n % 10 < 10 by omega)]; rfl
theorem dec_len1 {n : Nat} (h : n < 10) : (Lib.decDigits n).length = 1 := by rw [Lib.decDigits_one h]; rfl
theorem sz_len {n : Nat} (h : n ≤ 9999) : szK n 3 = (Lib.decDigits n).length := by
  unfold szK
  rcases Nat.lt_or_ge n 10 with h1 | h1
  · rw [dec_len1 h1, if_neg (by omega), if_neg (by omega), if_neg (by omega)]
  · rw [dec_len10 h1]
    rcases Nat.lt_or_ge n 100 with h2 | h2
    · rw [dec_len1 (by omega), if_pos (by omega), if_neg (by omega), if_neg (by omega)]
    · rw [dec_len10 (by omega)]
      rcases Nat.lt_or_ge n 1000 with h3 | h3
      · rw [dec_len1 (by omega), if_pos (by omega), if_pos (by omega), if_neg (by omega)]
      · rw [dec_len10 (by omega), dec_len1 (by omega), if_pos (by omega), if_pos (by omega), if_pos (by omega)]
set_option maxRecDepth 100000 in
set_option maxHeartbeats 3200000 in
theorem size_ok (n : Nat) (h9 : n ≤ 9999) (w : World) (hT : T1 w) :
    Calls Tryz.prog 14 #[.int .i64 (n : Int)] w fun e w' => e = .returned (.int .i64 ((Lib.decDigits n).length : Nat)) ∧ w' = w := by
  have t0 := hT.tens 0 (by decide)
  have t1 := hT.tens 1 (by decide)
  have t2 := hT.tens 2 (by decide)
  simp only [Nat.zero_add, Nat.reduceAdd, Nat.reducePow] at t0 t1 t2
  rw [← sz_len h9]
  clear hT
  go_enter Tryz.func14, Tryz.ntmps14
  go_wp2
  go_loopw [3, 7] (fun k i wr => ∃ j : Nat, i = .int .i64 (j : Int) ∧ j ≤ 3 ∧ k = .int .i64 ((szK n j : Nat) : Int) ∧ wr = w) (fun _ i _ => 3 - (intOf i).toNat)
  case atStart => exact ⟨0, rfl, by decide, by rfl, rfl⟩
  case round =>
    obtain ⟨j, rfl, hj, rfl, rfl⟩ := hrel
    have hb : szK n j ≤ 4 := by unfold szK; split <;> split <;> split <;> omega
    match j, hj with
    | 0, _ =>
      simp only [Int.cast_ofNat_Int]
      by_cases h : 10 ≤ n
      · have d : decide ((10 : Int) ≤ (n : Int)) = true := decide_eq_true (by omega)
        have e : szK n 1 = szK n 0 + 1 := by unfold szK; simp [h]
        go_wp2
        go_roundw
        case rel => exact ⟨1, rfl, by decide, by rw [e]; go_num, trivial⟩
        case measure => simp [intOf]
      · have d : decide ((10 : Int) ≤ (n : Int)) = false := decide_eq_false (by omega)
        have e : szK n 1 = szK n 0 := by unfold szK; simp [h]
        go_wp2
        go_roundw
        case rel => exact ⟨1, rfl, by decide, by rw [e], trivial⟩
        case measure => simp [intOf]
    | 1, _ =>
      simp only [Int.cast_ofNat_Int]
      by_cases h : 100 ≤ n
      · have d : decide ((100 : Int) ≤ (n : Int)) = true := decide_eq_true (by omega)
        have e : szK n 2 = szK n 1 + 1 := by unfold szK; simp [h]
        go_wp2
        go_roundw
        case rel => exact ⟨2, rfl, by decide, by rw [e]; go_num, trivial⟩
        case measure => simp [intOf]
      · have d : decide ((100 : Int) ≤ (n : Int)) = false := decide_eq_false (by omega)
        have e : szK n 2 = szK n 1 := by unfold szK; simp [h]
        go_wp2
        go_roundw
        case rel => exact ⟨2, rfl, by decide, by rw [e], trivial⟩
        case measure => simp [intOf]
    | 2, _ =>
      simp only [Int.cast_ofNat_Int]
      by_cases h : 1000 ≤ n
      · have d : decide ((1000 : Int) ≤ (n : Int)) = true := decide_eq_true (by omega)
        have e : szK n 3 = szK n 2 + 1 := by unfold szK; simp [h]
        go_wp2
        go_roundw
        case rel => exact ⟨3, rfl, by decide, by rw [e]; go_num, trivial⟩
        case measure => simp [intOf]
      · have d : decide ((1000 : Int) ≤ (n : Int)) = false := decide_eq_false (by omega)
        have e : szK n 3 = szK n 2 := by unfold szK; simp [h]
        go_wp2
        go_roundw
        case rel => exact ⟨3, rfl, by decide, by rw [e], trivial⟩
        case measure => simp [intOf]
    | 3, _ =>
      simp only [Int.cast_ofNat_Int]
      go_wp2
      go_ret
      exact ⟨rfl, rfl⟩
end Go.Proofs.YthmknaoelmeniaaGreatDoor

namespace Go.Proofs.YthmknaoelmeniaaGreatDoor
open Go.RowKit Go.Sort Go.Joins

theorem info_b : (Tryz.prog.info? 4).map (fun i => (i.zero, i.size, i.bytes)) = some (some (.bool false), 1, 1) := by kernel_rfl
/-- the first n answers, as values -/
def bl (p : Nat → Bool) (n : Nat) : List Value := (List.range n).map fun i => Value.bool (p i)
theorem bl_length (p : Nat → Bool) (n : Nat) : (bl p n).length = n := by simp [bl]
theorem bl_get (p : Nat → Bool) (n k : Nat) (h : k < n) : (bl p n)[k]? = some (.bool (p k)) := by simp [bl, h]
theorem bl_congr {p q : Nat → Bool} {n : Nat} (h : ∀ i, i < n → p i = q i) : bl p n = bl q n := by
  unfold bl
  exact List.map_congr_left fun i hi => by rw [h i (by simpa using hi)]
theorem bl_set (p : Nat → Bool) (n k : Nat) (v : Bool) : (bl p n).set k (.bool v) = bl (fun i => if i = k then v else p i) n := by
  apply List.ext_getElem?
  intro i
  rw [List.getElem?_set]
  by_cases hi : i < n
  · rw [bl_get _ _ _ hi, bl_get _ _ _ hi, bl_length]
    by_cases hk : k = i
    · subst hk; rw [if_pos rfl, if_pos hi, if_pos rfl]
    · rw [if_neg hk, if_neg (fun h => hk h.symm)]
  · have e : ∀ q, (bl q n)[i]? = none := fun q => List.getElem?_eq_none (by rw [bl_length]; omega)
    rw [e, e, bl_length]
    by_cases hk : k = i
    · subst hk; rw [if_pos rfl, if_neg hi]
    · rw [if_neg hk]
/-- an owned row of bools reads so -/
theorem own_bl {w : World} {base n : Nat} {e : TypeId} {g cap : Nat} {p : Nat → Bool} (h : w.ownsRow base e 1 (.slice (some ⟨g, 0, none⟩) n cap) n (bl p n)) (k : Nat) (hk : k < n) : w.cell? ⟨g, k, none⟩ = some (.bool (p k)) := by
  have := h.cellAt k (by omega)
  rw [bl_get _ _ _ hk] at this
  exact this
theorem bl_false (n : Nat) : (List.replicate n (Value.bool false)) = bl (fun _ => false) n := by
  apply List.ext_getElem?
  intro i
  by_cases h : i < n
  · rw [bl_get _ _ _ h, List.getElem?_replicate, if_pos h]
  · rw [List.getElem?_eq_none (by simpa using h), List.getElem?_eq_none (by rw [bl_length]; omega)]
theorem zeros_bl (w : World) (len : Nat) (h : len ≤ 10000000) : (w.alloc (.cells (madeCells #[.bool false] len) 4)).ownsRow w.heap.size 4 1 (.slice (some ⟨w.heap.size, 0, none⟩) len len) len (bl (fun _ => false) len) := by
  have h1 := World.ownsRow_lit (base := w.heap.size) (e := 4) (size := 1) w (madeCells #[.bool false] len) len (Nat.le_refl _) (by unfold maxLen; omega) (by simp [madeCells])
  rw [toList_madeCells_one, bl_false] at h1
  exact h1
/-- a store into a row of bools -/
theorem bl_stored {wr : World} {base g cap n k : Nat} {e : TypeId} {p r : Nat → Bool} {v : Bool} (ho : wr.ownsRow base e 1 (.slice (some ⟨g, 0, none⟩) n cap) n (bl p n)) (h : ∀ i, i < n → r i = if i = k then v else p i) :
    (wr.setCell ⟨g, k, none⟩ (.bool v)).ownsRow base e 1 (.slice (some ⟨g, 0, none⟩) n cap) n (bl r n) := by
  have hs := (ho.stored k (.bool v)).1
  rw [bl_set] at hs
  rw [bl_congr h]
  exact hs
end Go.Proofs.YthmknaoelmeniaaGreatDoor

namespace Go.Proofs.YthmknaoelmeniaaGreatDoor
open Go.RowKit Go.Sort Go.Joins

/-- the first n numbers, as values -/
def il (p : Nat → Nat) (n : Nat) : List Value := (List.range n).map fun i => Value.int .i64 (p i : Int)
theorem il_length (p : Nat → Nat) (n : Nat) : (il p n).length = n := by simp [il]
theorem il_get (p : Nat → Nat) (n k : Nat) (h : k < n) : (il p n)[k]? = some (.int .i64 (p k : Int)) := by simp [il, h]
theorem il_congr {p q : Nat → Nat} {n : Nat} (h : ∀ i, i < n → p i = q i) : il p n = il q n := by
  unfold il
  exact List.map_congr_left fun i hi => by rw [h i (by simpa using hi)]
theorem il_set (p : Nat → Nat) (n k v : Nat) : (il p n).set k (.int .i64 (v : Int)) = il (fun i => if i = k then v else p i) n := by
  apply List.ext_getElem?
  intro i
  rw [List.getElem?_set]
  by_cases hi : i < n
  · rw [il_get _ _ _ hi, il_get _ _ _ hi, il_length]
    by_cases hk : k = i
    · subst hk; rw [if_pos rfl, if_pos hi, if_pos rfl]
    · rw [if_neg hk, if_neg (fun h => hk h.symm)]
  · have e : ∀ q, (il q n)[i]? = none := fun q => List.getElem?_eq_none (by rw [il_length]; omega)
    rw [e, e, il_length]
    by_cases hk : k = i
    · subst hk; rw [if_pos rfl, if_neg hi]
    · rw [if_neg hk]
theorem own_il {w : World} {base n : Nat} {e : TypeId} {g cap : Nat} {p : Nat → Nat} (h : w.ownsRow base e 1 (.slice (some ⟨g, 0, none⟩) n cap) n (il p n)) (k : Nat) (hk : k < n) : w.cell? ⟨g, k, none⟩ = some (.int .i64 (p k : Int)) := by
  have := h.cellAt k (by omega)
  rw [il_get _ _ _ hk] at this
  exact this
theorem il_zero (n : Nat) : (List.replicate n (Value.int .i64 0)) = il (fun _ => 0) n := by
  apply List.ext_getElem?
  intro i
  by_cases h : i < n
  · rw [il_get _ _ _ h, List.getElem?_replicate, if_pos h]; rfl
  · rw [List.getElem?_eq_none (by simpa using h), List.getElem?_eq_none (by rw [il_length]; omega)]
theorem zeros_il (w : World) (len : Nat) (h : len ≤ 10000000) : (w.alloc (.cells (madeCells #[.int .i64 0] len) 3)).ownsRow w.heap.size 3 1 (.slice (some ⟨w.heap.size, 0, none⟩) len len) len (il (fun _ => 0) len) := by
  have h1 := World.ownsRow_lit (base := w.heap.size) (e := 3) (size := 1) w (madeCells #[.int .i64 0] len) len (Nat.le_refl _) (by unfold maxLen; omega) (by simp [madeCells])
  rw [toList_madeCells_one, il_zero] at h1
  exact h1
/-- a store into a row of numbers -/
theorem il_stored {wr : World} {base g cap n k v : Nat} {e : TypeId} {p r : Nat → Nat} (ho : wr.ownsRow base e 1 (.slice (some ⟨g, 0, none⟩) n cap) n (il p n)) (h : ∀ i, i < n → r i = if i = k then v else p i) :
    (wr.setCell ⟨g, k, none⟩ (.int .i64 (v : Int))).ownsRow base e 1 (.slice (some ⟨g, 0, none⟩) n cap) n (il r n) := by
  have hs := (ho.stored k (.int .i64 (v : Int))).1
  rw [il_set] at hs
  rw [il_congr h]
  exact hs
theorem own_stays' {W W' : World} {base : Nat} {e : TypeId} {size : Nat} {v : Value} {n : Nat} {xs : List Value} {row : Option Nat} (h : W.ownsRow base e size v n xs) (hg : W.grownBy W' row) (hr : ∀ r, row = some r → ∃ o : Obj, W.heap[r]? = some o ∧ o.isCells = false) : W'.ownsRow base e size v n xs := own_stays h hg hr
/-- what List keeps in memory: the row of lengths, its box, the marks; z is where the call began -/
structure LM (w : World) (n : Nat) (P : Nat → Nat) (ds : List Nat) (W : World) : Prop where
  own : W.ownsRow w.heap.size 3 1 (.slice (some ⟨w.heap.size, 0, none⟩) (n + 1) (n + 1)) (n + 1) (il P (n + 1))
  box : W.heap[w.heap.size + 1]? = some (.cells #[.slice (some ⟨w.heap.size, 0, none⟩) (n + 1) (n + 1)] 22 (0, 0))
  k : Below w.heap.size w W
  dm : MksAt (w.heap.size + 3) ds W
section
variable {w W W' : World} {n : Nat} {P P' : Nat → Nat} {ds : List Nat}
theorem LM.below (h : LM w n P ds W) (hb : Below W.heap.size W W') : LM w n P ds W' :=
  ⟨own_below h.own hb, (hb.block _ (blk_lt h.box)).trans h.box, h.k.trans (hb.mono h.k.size), h.dm.below hb⟩
theorem LM.congr (h : LM w n P ds W) (hM : ∀ j, j < n + 1 → P j = P' j) : LM w n P' ds W :=
  ⟨by rw [← il_congr hM]; exact h.own, h.box, h.k, h.dm⟩
theorem LM.grown {Z : Nat} {row : Option Nat} (h : LM w n P ds W) (hZ : w.heap.size ≤ Z) (hds : ∀ D ∈ ds, D < Z) (hg : W.grownBy W' row) (hr : ∀ r, row = some r → Z ≤ r ∧ ∃ o : Obj, W.heap[r]? = some o ∧ o.isCells = false) : LM w n P ds W' :=
  ⟨own_stays h.own hg (fun r e => (hr r e).2), blk_kept h.box hg (fun r e => (hr r e).2), h.k.grown hg h.k.size (fun r e => by have := (hr r e).1; omega),
    h.dm.keep fun D hD hk => (hg.block D (Array.getElem?_eq_some_iff.1 hk).1 (fun e => by have := (hr D e.symm).1; have := hds D hD; omega)).trans hk⟩
theorem LM.store {m v : Nat} (h : LM w n P ds W) (hM : ∀ i, i < n + 1 → P' i = if i = m then v else P i) : LM w n P' ds (W.setCell ⟨w.heap.size, m, none⟩ (.int .i64 (v : Int))) := by
  refine ⟨il_stored h.own hM, (Below.heap_setCell _ _ _ _ (show w.heap.size + 1 ≠ w.heap.size by omega)).trans h.box, h.k.setCell (p := ⟨w.heap.size, m, none⟩) (Nat.le_refl _) _, h.dm.keep fun D hD hk => (Below.heap_setCell _ _ _ _ (show D ≠ w.heap.size from fun e => by have := (h.dm.2 D hD).1; omega)).trans hk⟩
/-- a store into a box beside -/
theorem LM.other {p : Addr} (h : LM w n P ds W) (hp : w.heap.size + 2 ≤ p.block) (hd : ∀ D ∈ ds, D ≠ p.block) (v : Value) : LM w n P ds (W.setCell p v) := by
  refine ⟨ownsRow_setCell_other h.own (by simp [Value.ownBlock]; omega) v, (Below.heap_setCell _ _ _ _ (by omega)).trans h.box, h.k.setCell (p := p) (by omega) _, h.dm.keep fun D hD hk => (Below.heap_setCell _ _ _ _ (hd D hD)).trans hk⟩
theorem LM.cell (h : LM w n P ds W) : W.cell? ⟨w.heap.size + 1, 0, none⟩ = some (.slice (some ⟨w.heap.size, 0, none⟩) (n + 1) (n + 1)) := by
  rw [cell_of_block h.box]; rfl
theorem LM.at_ (h : LM w n P ds W) {j : Nat} (hj : j ≤ n) : W.cell? ⟨w.heap.size, j, none⟩ = some (.int .i64 (P j : Int)) := own_il h.own j (by omega)
end
end Go.Proofs.YthmknaoelmeniaaGreatDoor

namespace Go.Proofs.YthmknaoelmeniaaGreatDoor
open Go.RowKit Go.Sort Go.Joins

theorem heap_alloc_is (w : World) (cs : Array Value) (t : TypeId) (k : Nat) (hk : k = w.heap.size) : (w.alloc (.cells cs t)).heap[k]? = some (.cells cs t (0, 0)) := by
  subst hk
  exact heap_alloc_new w _
/-- the lengths from k on -/
def bst (N : List Nat) (k j : Nat) : Nat := if k ≤ j then lenB N j else 0
/-- a box with a number -/
abbrev BoxI (W : World) (q : Nat) (i : Int) : Prop := W.heap[q]? = some (.cells #[.int .i64 i] 3 (0, 0))
/-- the first loop: k numbers are still to come -/
def L2 (w : World) (a : Option Addr) (n c : Nat) (N : List Nat) (A : Act) (W : World) : Prop :=
  ∃ (k q : Nat) (u2 u3 u5 u20 u21 u22 u23 u24 u25 u26 u27 u28 u8 u36 u37 u38 u39 u40 u41 u42 u43 u44 u45 u46 u47 u48 u49 u50 u51 u52 u53 u54 u55 u56 u57 u58 u59 u60 u61 u62 u63 u64 u65 u66 u67 u68 u69 u70 u71 u72 u73 u74 u75 u76 u77 u78 u79 u80 : Value) (ds : List Nat), A = { tmps := #[.slice a n c, undef, u2, u3, undef, u5, .pointer (some ⟨w.heap.size + 1, 0, none⟩), .pointer (some ⟨q, 0, none⟩), u8, undef, undef, undef, undef, .slice a n c, .int .i64 (n : Int), .bool false, .slice a n c, .int .i64 (n : Int), .int .i64 (n : Int), .bool false, u20, u21, u22, u23, u24, u25, u26, u27, u28, .slice a n c, .int .i64 (n : Int), .int .i64 ((n : Int) + 1), .slice (some ⟨w.heap.size, 0, none⟩) (n + 1) (n + 1), .slice a n c, .int .i64 (n : Int), .int .i64 ((n : Int) - 1), u36, u37, u38, u39, u40, u41, u42, u43, u44, u45, u46, u47, u48, u49, u50, u51, u52, u53, u54, u55, u56, u57, u58, u59, u60, u61, u62, u63, u64, u65, u66, u67, u68, u69, u70, u71, u72, u73, u74, u75, u76, u77, u78, u79, u80, undef, undef, undef, undef, undef, undef, undef, undef, undef, undef, undef, undef, undef, undef, undef, undef, undef, undef, undef, undef, undef, undef, undef, undef, undef, undef, undef, undef, undef, undef, undef, undef, undef, undef, undef, undef, undef, undef, undef, undef, undef, undef, undef, undef, undef, undef, undef, undef, undef, undef, undef, undef, undef, undef], defers := mks ds } ∧ k ≤ n ∧ w.heap.size + 2 ≤ q ∧ BoxI W q ((k : Int) - 1) ∧ LM w n (bst N k) ds W
def mu2 (A : Act) (W : World) : Nat := match A.tmps.getD 7 undef with
  | .pointer (some p) => (match W.cell? p with | some (.int _ i) => (i + 1).toNat | _ => 0)
  | _ => 0
/-- behind the first loop -/
def L2e (w : World) (a : Option Addr) (n c : Nat) (N : List Nat) (A : Act) (W : World) : Prop :=
  ∃ (q : Nat) (u2 u3 u5 u20 u21 u22 u23 u24 u25 u26 u27 u28 u8 u38 u39 u40 u41 u42 u43 u44 u45 u46 u47 u48 u49 u50 u51 u52 u53 u54 u55 u56 u57 u58 u59 u60 u61 u62 u63 u64 u65 u66 u67 u68 u69 u70 u71 u72 u73 u74 u75 u76 u77 u78 u79 u80 : Value) (ds : List Nat), A = { tmps := #[.slice a n c, undef, u2, u3, undef, u5, .pointer (some ⟨w.heap.size + 1, 0, none⟩), .pointer (some ⟨q, 0, none⟩), u8, undef, undef, undef, undef, .slice a n c, .int .i64 (n : Int), .bool false, .slice a n c, .int .i64 (n : Int), .int .i64 (n : Int), .bool false, u20, u21, u22, u23, u24, u25, u26, u27, u28, .slice a n c, .int .i64 (n : Int), .int .i64 ((n : Int) + 1), .slice (some ⟨w.heap.size, 0, none⟩) (n + 1) (n + 1), .slice a n c, .int .i64 (n : Int), .int .i64 ((n : Int) - 1), .int .i64 (-1), .bool false, u38, u39, u40, u41, u42, u43, u44, u45, u46, u47, u48, u49, u50, u51, u52, u53, u54, u55, u56, u57, u58, u59, u60, u61, u62, u63, u64, u65, u66, u67, u68, u69, u70, u71, u72, u73, u74, u75, u76, u77, u78, u79, u80, undef, undef, undef, undef, undef, undef, undef, undef, undef, undef, undef, undef, undef, undef, undef, undef, undef, undef, undef, undef, undef, undef, undef, undef, undef, undef, undef, undef, undef, undef, undef, undef, undef, undef, undef, undef, undef, undef, undef, undef, undef, undef, undef, undef, undef, undef, undef, undef, undef, undef, undef, undef, undef, undef], defers := mks ds } ∧ w.heap.size + 2 ≤ q ∧ BoxI W q (-1) ∧ LM w n (bst N 0) ds W
end Go.Proofs.YthmknaoelmeniaaGreatDoor

namespace Go.Proofs.YthmknaoelmeniaaGreatDoor
open Go.RowKit Go.Sort Go.Joins

/-- wpIn_iter, the act behind the assignment told out of the act ahead of the loop -/
theorem wpIn_iter_ax {α : Type} {F : Fence} {n : Nat} {P : Program} {g : Operand} {ps : Array Tmp} {assign body : Code} {Q : Exit → Act → World → Prop} {a : Act} {w : World}
    (hro : F.round = none) (h1 : 1 ≤ n) {gf : Nat} {lb : Array Value} (hg : a.eval g = .func (.func gf) #[] lb) (hFg : F.fn gf) (eg : ∀ args w, (callFunc gf args).run P w = .ok (.enter gf args) w)
    {encs : α → Array Value} {G : List α → α → Prop} {S : List α → Prop} (I : List α → World → Prop) (hseq : SeqI F (n - 1) P gf lb encs I G S w)
    (hps : ∀ x, (encs x).size = ps.size) (Ix : Code → List α → World → Prop) (hI : OwnFrom w.heap.size I) (hIx : ∀ c, OwnFrom w.heap.size (Ix c)) (h0 : I [] w) (Af : Act → α → Act → World → Prop) (hAx : ∀ x a', OwnFrom w.heap.size (fun (_ : Unit) W => Af a x a' W))
    (hassign : ∀ (l : Nat) (pre : List α) (x : α) (W : World) (K : Act → World → Prop), I pre W → G pre x → (∀ a' W', KeepsFrom w.heap.size W W' → I pre W' → Af a x a' W' → K a' W') →
      assign.wpIn (F.inRound l) (n - 1 - 1) P (Exit.then K (fun _ _ _ => False)) { tmps := (ps.zip (encs x)).foldl (fun t (p, v) => t.setIfInBounds p v) a.tmps, defers := [] } W)
    (hbody : ∀ (l : Nat) (pre : List α) (x : α) (a' : Act) (W : World), w.heap.size ≤ l → I pre W → Af a x a' W → G pre x → body.wpIn (F.inRound l) (n - 1 - 1) P (roundPost w.heap.size I Ix (pre ++ [x]) W) a' W)
    (hdone : ∀ (D : Nat) (xs : List α) (W : World), w.heap.size ≤ D → S xs → I xs W → W.heap[D]? = some (.deferred (some [])) → Q .normal { a with defers := { target := .collected D, args := #[] } :: a.defers } W)
    (hstop : ∀ (D : Nat) (c : Code) (pre : List α) (W : World), w.heap.size ≤ D → Ix c pre W → W.heap[D]? = some (.deferred (some [])) → c.wpIn F n P Q { a with defers := { target := .collected D, args := #[] } :: a.defers } W) :
    (Code.rangeFunc g ps assign body).wpIn F n P Q a w :=
  wpIn_iter hro h1 hg hFg eg I hseq hps Ix hI hIx h0 (Af a) hAx hassign hbody hdone hstop
def frB (x : ItB) : Itm := (x.1.data.toList, x.2)
theorem fr_to (x : Itm) : frB (toB x) = x := rfl
theorem fr_items (M : List Nat) : (itB M).map frB = itemsL M := by
  unfold itB
  rw [List.map_map]
  conv => rhs; rw [← List.map_id (itemsL M)]
  exact List.map_congr_left fun x _ => fr_to x
theorem git_mem {M : List Nat} {pre : List ItB} {x : ItB} (h : GIt M pre x) : ∃ y, y ∈ itemsL M ∧ x = toB y := by
  obtain ⟨i, _, hx⟩ := h
  obtain ⟨y, hy, e⟩ := List.mem_map.1 (List.mem_of_getElem? hx)
  exact ⟨y, hy, e.symm⟩
theorem items_size {M : List Nat} (h9 : ∀ x, x ∈ M → x ≤ 9999) (hl : M.length ≤ 500) {y : Itm} (hy : y ∈ itemsL M) : y.1.length ≤ 11 := by
  have dl : ∀ n, n ≤ 99999 → (Lib.decDigits n).length ≤ 5 := fun n h => dec_size h
  cases M with
  | nil => cases hy
  | cons f r =>
    have hf := h9 f (by simp)
    have hm := (items_many hy).2
    rcases mem_items.1 hy with rfl | ⟨j, hj, rfl⟩ | ⟨j, hj, rfl⟩
    · have := dl f (by omega); dsimp only; omega
    · have hu := runU_le (f :: r) f
      have h1 := dl f (by omega)
      have h2 := dl (f + j + 1) (by omega)
      unfold upI
      simp only [List.length_append, List.length_cons]; omega
    · have hu := runA_le f (f :: r)
      have h1 := dl f (by omega)
      have h2 := dl (j + 2) (by omega)
      unfold alI
      simp only [List.length_append, List.length_cons]; omega
theorem SlN.drop {w : World} {b o : Nat} {I : List Int} (h : SlN w (some ⟨b, o, none⟩) I) (j : Nat) : SlN w (some ⟨b, o + j, none⟩) (I.drop j) := by
  by_cases h0 : I.drop j = []
  · exact .inl h0
  · refine .inr ⟨b, o + j, rfl, fun i hi => ?_⟩
    rw [List.length_drop] at hi
    obtain ⟨b', o', e, hc⟩ := h.at_ (j := j + i) (by omega)
    cases e
    rw [List.getD_eq_getElem?_getD, List.getElem?_drop, ← List.getD_eq_getElem?_getD, Nat.add_assoc]
    exact hc
theorem ints_drop (N : List Nat) (j : Nat) : (ints N).drop j = ints (N.drop j) := by unfold ints; rw [List.map_drop]
/-- the lengths while the items at j are asked -/
def minP (N : List Nat) (j : Nat) (pre : List ItB) (i : Nat) : Nat := if i = j then minV N j (pre.map frB) (oneB N j) else bst N (j + 1) i
theorem minP_snoc (N : List Nat) (j : Nat) (pre : List ItB) (x : ItB) (i : Nat) : minP N j (pre ++ [x]) i = if i = j then min (minV N j (pre.map frB) (oneB N j)) (valB N j (frB x)) else minP N j pre i := by
  unfold minP
  by_cases h : i = j
  · rw [if_pos h, if_pos h, List.map_append, List.map_cons, List.map_nil, minV_snoc]
  · rw [if_neg h, if_neg h, if_neg h]
theorem minP_all {N : List Nat} {j : Nat} (h : j < N.length) (i : Nat) : minP N j (itB (N.drop j)) i = bst N j i := by
  unfold minP
  by_cases e : i = j
  · subst e
    rw [if_pos rfl, fr_items, minV_all h]
    unfold bst
    rw [if_pos (Nat.le_refl _)]
  · rw [if_neg e]
    unfold bst
    by_cases h1 : j + 1 ≤ i
    · rw [if_pos h1, if_pos (by omega)]
    · rw [if_neg h1, if_neg (by omega)]
/-- memory while the items at j are asked -/
structure IV (w : World) (n : Nat) (P : Nat → Nat) (ds : List Nat) (zq : Nat) (V : Value) (q : Nat) (j : Nat) (W : World) : Prop where
  lm : LM w n P ds W
  zb : W.heap[zq]? = some (.cells #[V] 22 (0, 0))
  qb : BoxI W q (j : Int)
section
variable {w W W' : World} {n : Nat} {P P' : Nat → Nat} {ds : List Nat} {zq q j : Nat} {V : Value}
theorem IV.below (h : IV w n P ds zq V q j W) (hb : Below W.heap.size W W') : IV w n P ds zq V q j W' :=
  ⟨h.lm.below hb, (hb.block _ (blk_lt h.zb)).trans h.zb, (hb.block _ (blk_lt h.qb)).trans h.qb⟩
theorem IV.grown {Z : Nat} {row : Option Nat} (h : IV w n P ds zq V q j W) (hZ : w.heap.size ≤ Z) (hds : ∀ D ∈ ds, D < Z) (hg : W.grownBy W' row) (hr : ∀ r, row = some r → Z ≤ r ∧ ∃ o : Obj, W.heap[r]? = some o ∧ o.isCells = false) : IV w n P ds zq V q j W' :=
  ⟨h.lm.grown hZ hds hg hr, blk_kept h.zb hg (fun r e => (hr r e).2), blk_kept h.qb hg (fun r e => (hr r e).2)⟩
theorem IV.store {m v : Nat} (h : IV w n P ds zq V q j W) (hz : w.heap.size ≠ zq) (hq : w.heap.size ≠ q) (hM : ∀ i, i < n + 1 → P' i = if i = m then v else P i) : IV w n P' ds zq V q j (W.setCell ⟨w.heap.size, m, none⟩ (.int .i64 (v : Int))) :=
  ⟨h.lm.store hM, (Below.heap_setCell _ _ _ _ (Ne.symm hz)).trans h.zb, (Below.heap_setCell _ _ _ _ (Ne.symm hq)).trans h.qb⟩
end
end Go.Proofs.YthmknaoelmeniaaGreatDoor

namespace Go.Proofs.YthmknaoelmeniaaGreatDoor
open Go
/-- no defer statement -/
def plainOp (o : Oper) : Bool := match o.op with
  | .defer _ => false
  | _ => true
theorem plainOp_ne {o : Oper} (h : plainOp o = true) : ∀ c, o.op ≠ .defer c := fun c e => by
  unfold plainOp at h
  rw [e] at h
  cases h
section
variable {F : Fence} {n : Nat} {P : Program} {ops : Array Oper} {md : Region.Mode} {C : World → Prop}
theorem quiet_wpIn {o : Oper} {a : Act} {K : Act → Prop} {K' : Act → World → Prop} {Q' : Exit → Act → World → Prop} {w : World} (hro : ∀ c, o.op ≠ .defer c) (hw : C w) (h : ∀ a w', C w' → K a → K' a w')
    (ha : o.askedIn F P a C) (hh : o.quietIn F n P a C K) : o.wpIn F n P a w K' Q' := by
  obtain ⟨v, h1, h2⟩ := hh
  have h3 := h1 w hw
  unfold Oper.quietAtIn at h3
  unfold Oper.wpIn
  refine ⟨ha w hw, ?_⟩
  rw [Oper.semAt_plain F _ _ hro]
  generalize (execOp a.eval o).run P w = r at *
  cases r with
  | ok x w' =>
    cases x <;> simp only [Oper.quietUponIn] at h3 <;> simp only [Oper.uponIn]
    case value u =>
      obtain ⟨e1, e2⟩ := h3
      rw [e1, e2]
      exact h _ _ hw h2
    case skip =>
      obtain ⟨e1, e2⟩ := h3
      rw [e1, ← e2]
      exact h _ _ hw h2
    case enter f args =>
      obtain ⟨e1, hd, hc⟩ := h3
      rw [e1]
      exact ⟨hd, hc.mono fun e w'' ⟨he, hw''⟩ => by subst he; exact h _ _ hw'' h2⟩
  | halt x w' => simp only [Oper.quietUponIn] at h3
theorem wpOpIn_quiet {i : Nat} {a : Act} {K : Act → Prop} {K' : Act → World → Prop} {Q' : Exit → Act → World → Prop} {w : World} (hro : ∀ (i : Nat) (o : Oper), ops[i]? = some o → ∀ c, o.op ≠ .defer c) (hC : C w) (h : ∀ a w', C w' → K a → K' a w')
    (hh : qOpIn F n P ops C i K a) : wpOpIn F n P ops Q' i K' a w := by
  unfold qOpIn at hh
  unfold wpOpIn
  split
  · rename_i ho; simp only [ho] at hh; exact h _ _ hC hh
  · rename_i o ho
    simp only [ho] at hh
    obtain ⟨ha, hh⟩ := hh
    split
    · rename_i hw; simp only [hw, if_true] at hh; exact quiet_wpIn (hro _ _ ho) hC h ha hh
    · rename_i hw; simp only [hw] at hh; exact ⟨ha w hC, h _ _ hC hh⟩
theorem wpAnyIn_quiet {Q : Act → Prop} {Q' : Exit → Act → World → Prop} (hro : ∀ (i : Nat) (o : Oper), ops[i]? = some o → ∀ c, o.op ≠ .defer c) (hQ : ∀ a w, C w → Q a → Q' .normal a w) : ∀ (fuel : Nat) (listed : Array Bool) (a : Act) (w : World), C w →
    wpAnyQIn F n P md ops C Q fuel listed a → wpAnyIn F n P md ops Q' fuel listed a w
  | 0, _, _, _, hw, h => ⟨h.1, hQ _ _ hw h.2⟩
  | fuel + 1, _, _, _, hw, h => ⟨fun h0 => hQ _ _ hw (h.1 h0), fun i hi => wpOpIn_quiet hro hw (fun a' w' hw' => wpAnyIn_quiet hro hQ fuel _ a' w' hw') (h.2 i hi)⟩
theorem wpIn_quiet_lit {id : Nat} {Q : Exit → Act → World → Prop} {a : Act} {w : World} {l : List Oper} (hro : l.all plainOp = true) (hm : P.follows .mixedOrders = true) (hB : Region.lexB .any l.toArray = true)
    (h : wpQuietIn F n P l.toArray (fun w' => ∃ n, w' = w.drewN n) (fun a' => ∀ w', (∃ n, w' = w.drewN n) → Q .normal a' w') l a) : (Code.region id l.toArray true).wpIn F n P Q a w := by
  simp only [Region.lexB, Bool.and_eq_true] at hB
  have hp : ∀ (i : Nat) (o : Oper), l.toArray[i]? = some o → ∀ c, o.op ≠ .defer c := fun i o ho =>
    plainOp_ne (List.all_eq_true.1 hro o (by
      rw [List.getElem?_toArray] at ho
      exact List.mem_of_getElem? ho))
  refine wpIn_region_any hm (wpAnyIn_quiet (C := fun w' => ∃ n, w' = w.drewN n) (Q := fun a' => ∀ w', (∃ n, w' = w.drewN n) → Q .normal a' w') hp (fun _ w' hw' h => h w' hw') _ _ _ _ ⟨1, rfl⟩ ?_)
  have := wpAnyQIn_lex (F := F) (n := n) (C := fun w' => ∃ n, w' = w.drewN n) (md := .any) hB.1 l 0 (Array.replicate l.toArray.size false) a (by simp) (by simpa using hB.2) h
  simpa using this
end
end Go.Proofs.YthmknaoelmeniaaGreatDoor

namespace Go.Proofs.YthmknaoelmeniaaGreatDoor
open Go
section
variable {P : Program} {ops : Array Oper} {Q : Exit → Act → World → Prop} {md : Region.Mode} {S : World → Prop} {l n : Nat}
theorem rowsIn_wideR {row : String} {args : Array Value} {w : World} {R : Value → World → Prop} (h : Rows P row args w R) : RowsIn (Fence.wide.inRound l) n P row args w R :=
  fun c cs _ => let ⟨v, w', r, s⟩ := h c cs; ⟨v, w', r, stepsIn_wide.2 s⟩
theorem callsIn_wideR {f : FuncId} {args : Array Value} {w : World} {R : Ending → World → Prop} (h : Calls P f args w R) : CallsIn (Fence.wide.inRound l) n P f args w R :=
  CallsIn.inRound l (callsIn_wide.2 h)
theorem operIn_wideR {o : Oper} {a : Act} {K : Act → World → Prop} {w : World} (hp : plainOp o = true) (h : o.wp P a w K Q) : o.wpIn (Fence.wide.inRound l) n P a w K Q := by
  unfold Oper.wp at h
  unfold Oper.wpIn
  refine ⟨fun _ _ => trivial, ?_⟩
  rw [Oper.semAt_plain (Fence.wide.inRound l) _ _ (plainOp_ne hp)]
  generalize (execOp a.eval o).run P w = r at *
  cases r with
  | ok x w' =>
    cases x <;> simp only [Oper.upon] at h <;> simp only [Oper.uponIn]
    case value u => exact h
    case skip => exact h
    case defer d => exact h
    case enter f args =>
      refine ⟨fun e => by simp [Fence.inRound, Fence.wide] at e, callsIn_wideR ?_⟩
      refine h.mono ?_
      intro e w'' he
      cases e with
      | returned v => exact he
      | panicked c => exact he
      | outgrown => exact he
    case row row args => exact ⟨fun e => by simp [Fence.inRound, Fence.wide] at e, rowsIn_wideR h⟩
  | halt x w' => cases x <;> simp only [Oper.upon] at h <;> simp only [Oper.uponIn]; exact h
theorem wpOpIn_wideR {i : Nat} {a : Act} {K : Act → World → Prop} {w : World} (hp : ∀ (i : Nat) (o : Oper), ops[i]? = some o → plainOp o = true) (hL : ¬ LetsOut Q) (h : wpOp P ops Q i K a w) : wpOpIn (Fence.wide.inRound l) n P ops Q i K a w := by
  unfold wpOp at h
  unfold wpOpIn
  split
  · rename_i ho; simp only [ho] at h; exact h
  · rename_i o ho
    simp only [ho] at h
    split
    · rename_i hw
      simp only [hw, if_true] at h
      rcases h with h | ⟨_, h⟩
      · exact operIn_wideR (hp _ _ ho) h
      · exact absurd h hL
    · rename_i hw; simp only [hw] at h; exact ⟨fun _ _ => trivial, h⟩
theorem wpAnyIn_wideR (hp : ∀ (i : Nat) (o : Oper), ops[i]? = some o → plainOp o = true) (hL : ¬ LetsOut Q) : ∀ (fuel : Nat) (listed : Array Bool) (a : Act) (w : World), wpAny P md ops Q fuel listed a w → wpAnyIn (Fence.wide.inRound l) n P md ops Q fuel listed a w
  | 0, _, _, _, h => h
  | fuel + 1, _, _, _, h => ⟨h.1, fun i hi => wpOpIn_wideR hp hL (wpOp_mono (fun a' w' h' => wpAnyIn_wideR hp hL fuel _ a' w' h') (h.2 i hi))⟩
theorem wpIn_heldR (S : World → Prop) {id : Nat} {a : Act} {w : World} {lo : List Oper} (hp : lo.all plainOp = true) (hm : P.follows .mixedOrders = true) (hL : ¬ LetsOut Q) (hS : S w.drew)
    (h : S w.drew → wpAnyH P .any lo.toArray Q S lo.toArray.size (Array.replicate lo.toArray.size false) a w.drew) : (Code.region id lo.toArray true).wpIn (Fence.wide.inRound l) n P Q a w := by
  have hq : ∀ (i : Nat) (o : Oper), lo.toArray[i]? = some o → plainOp o = true := fun i o ho => List.all_eq_true.1 hp o (by
    rw [List.getElem?_toArray] at ho
    exact List.mem_of_getElem? ho)
  exact wpIn_region_any hm (wpAnyIn_wideR hq hL _ _ _ _ (wpAny_of_held _ _ _ _ (h hS)))
end
end Go.Proofs.YthmknaoelmeniaaGreatDoor

namespace Go.Proofs.YthmknaoelmeniaaGreatDoor
open Go

def isReg (k : Nat) : Code → Bool
  | .region id _ _ => id == k
  | _ => false
/-- the first place (in the text's order) where a region's number is followed by more code -/
def fndC (k : Nat) : Code → Option Code
  | .seq x y => bif isReg k x then some (.seq x y) else (match fndC k x with
    | some c => some c
    | none => fndC k y)
  | .cond _ x y => (match fndC k x with
    | some c => some c
    | none => fndC k y)
  | .block _ c => fndC k c
  | .loop c => fndC k c
  | .scope c => fndC k c
  | .rangeFunc _ _ x y => (match fndC k x with
    | some c => some c
    | none => fndC k y)
  | _ => none
def codeAt (f : Func) (k : Nat) : Code := match f.body with
  | some c => (fndC k c).getD .skip
  | none => .skip
theorem use_code {c d : Code} {F : Fence} {n : Nat} {P : Program} {Q : Exit → Act → World → Prop} {a : Act} {w : World} (h : d = c) (hw : d.wpIn F n P Q a w) : c.wpIn F n P Q a w := h ▸ hw
end Go.Proofs.YthmknaoelmeniaaGreatDoor
