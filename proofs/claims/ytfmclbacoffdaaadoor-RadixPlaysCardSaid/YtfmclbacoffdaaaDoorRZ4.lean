/- The radix map, plain: nodes and their cells. | The radix map in memory. | The radix map, plain: what its calls do. | Handles: new slots. | Handles: what Next finds. | The radix map in memory: what Next finds. | The radix map, plain: what always holds of a map; a node is made. | The radix map, plain: a leaf is made; a word is given. -/
import Derived.Test.YtfmclbacoffdaaaDoorRZ3
namespace Go.Proofs.YtfmclbacoffdaaaDoor
open Go.RowKit Go.Sort Go.Joins
/-- a node: Level, how many kids or words it has, these -/
structure Nd where
  lv : Int
  mn : Nat
  kd : Nat → Nat
  wd : Nat → Nat
def nd0 (l : Int) : Nd := ⟨l, 0, fun _ => 0, fun _ => 0⟩
abbrev ndZ : Nd := nd0 0
instance : Inhabited Nd := ⟨nd0 0⟩
def ndc (x : Nd) : List Value := [.int .i64 x.lv, .int .i64 (x.mn : Int)] ++ (List.range 16).map (fun k => .int .i64 (x.kd k : Int)) ++ (List.range 8).map (fun k => .int .u64 (x.wd k : Int))
def ndCells (st : List Nd) : List Value := st.flatMap ndc
theorem ndc_length (x : Nd) : (ndc x).length = 26 := by simp [ndc]
theorem ndc_lv (x : Nd) : (ndc x)[0]? = some (.int .i64 x.lv) := rfl
theorem ndc_mn (x : Nd) : (ndc x)[1]? = some (.int .i64 (x.mn : Int)) := rfl
theorem ndc_kd (x : Nd) {k : Nat} (h : k < 16) : (ndc x)[2 + k]? = some (.int .i64 (x.kd k : Int)) := by
  unfold ndc
  rw [List.getElem?_append_left (by simp; omega), List.getElem?_append_right (by simp)]
  simp [h]
theorem ndc_wd (x : Nd) {k : Nat} (h : k < 8) : (ndc x)[18 + k]? = some (.int .u64 (x.wd k : Int)) := by
  unfold ndc
  rw [List.getElem?_append_right (by simp)]
  simp [h]
/-- a function turned at a place -/
def upd (f : Nat → Nat) (k v : Nat) : Nat → Nat := fun j => if j = k then v else f j
theorem map_upd (g : Nat → Value) (h : Nat → Value) (n k : Nat) (hne : ∀ j, j < n → j ≠ k → h j = g j) : ((List.range n).map g).set k (h k) = (List.range n).map h := by
  refine List.ext_getElem (by simp) fun j h1 h2 => ?_
  rw [List.getElem_set]
  by_cases e : k = j
  · subst e; simp
  · rw [if_neg e]
    simp only [List.getElem_map, List.getElem_range]
    exact (hne j (by simpa using h2) (fun h => e h.symm)).symm
theorem ndc_setLv (x : Nd) (l : Int) : (ndc x).set 0 (.int .i64 l) = ndc { x with lv := l } := rfl
theorem ndc_setMn (x : Nd) (m : Nat) : (ndc x).set 1 (.int .i64 (m : Int)) = ndc { x with mn := m } := rfl
theorem ndc_setKd (x : Nd) {k : Nat} (h : k < 16) (v : Nat) : (ndc x).set (2 + k) (.int .i64 (v : Int)) = ndc { x with kd := upd x.kd k v } := by
  unfold ndc
  rw [List.set_append_left _ _ (by simp; omega), List.set_append_right _ _ (by simp)]
  have := map_upd (fun j => .int .i64 (x.kd j : Int)) (fun j => .int .i64 (upd x.kd k v j : Int)) 16 k (fun j _ hj => by unfold upd; rw [if_neg hj])
  unfold upd at this
  rw [if_pos rfl] at this
  simp only [List.length_cons, List.length_nil, Nat.add_sub_cancel_left]
  rw [this]
  rfl
theorem ndc_setWd (x : Nd) (k v : Nat) : (ndc x).set (18 + k) (.int .u64 (v : Int)) = ndc { x with wd := upd x.wd k v } := by
  unfold ndc
  rw [List.set_append_right _ _ (by simp)]
  have := map_upd (fun j => .int .u64 (x.wd j : Int)) (fun j => .int .u64 (upd x.wd k v j : Int)) 8 k (fun j _ hj => by unfold upd; rw [if_neg hj])
  unfold upd at this
  rw [if_pos rfl] at this
  simp only [List.length_append, List.length_cons, List.length_nil, List.length_map, List.length_range, Nat.reduceAdd, Nat.add_sub_cancel_left]
  rw [this]
  rfl
theorem ndCells_length : ∀ st : List Nd, (ndCells st).length = 26 * st.length
  | [] => rfl
  | x :: l => by
    have := ndCells_length l
    unfold ndCells at this ⊢
    rw [List.flatMap_cons, List.length_append, ndc_length, this, List.length_cons]
    omega
theorem ndCells_get (d : Nd) : ∀ (st : List Nd) (i j : Nat) (_ : i < st.length) (_ : j < 26), (ndCells st)[i * 26 + j]? = (ndc (st.getD i d))[j]?
  | [], i, _, h, _ => by simp at h
  | x :: l, 0, j, _, hj => by
    unfold ndCells
    rw [List.flatMap_cons, Nat.zero_mul, Nat.zero_add, List.getElem?_append_left (by rw [ndc_length]; exact hj)]
    rfl
  | x :: l, i + 1, j, h, hj => by
    have := ndCells_get d l i j (by simpa using h) hj
    unfold ndCells at this ⊢
    rw [List.flatMap_cons, List.getElem?_append_right (by rw [ndc_length]; omega), show (i + 1) * 26 + j - (ndc x).length = i * 26 + j by rw [ndc_length]; omega, this]
    rfl
theorem ndCells_set (d : Nd) : ∀ (st : List Nd) (i j : Nat) (v : Value) (y : Nd) (_ : i < st.length) (_ : j < 26) (_ : (ndc (st.getD i d)).set j v = ndc y), (ndCells st).set (i * 26 + j) v = ndCells (st.set i y)
  | [], i, _, _, _, h, _, _ => by simp at h
  | x :: l, 0, j, v, y, _, hj, he => by
    unfold ndCells
    rw [List.flatMap_cons, List.set_cons_zero, List.flatMap_cons, Nat.zero_mul, Nat.zero_add, List.set_append_left _ _ (by rw [ndc_length]; exact hj)]
    have he' : (ndc x).set j v = ndc y := he
    rw [he']
  | x :: l, i + 1, j, v, y, h, hj, he => by
    have := ndCells_set d l i j v y (by simpa using h) hj (by simpa using he)
    unfold ndCells at this ⊢
    rw [List.flatMap_cons, List.set_cons_succ, List.flatMap_cons, List.set_append_right _ _ (by rw [ndc_length]; omega), show (i + 1) * 26 + j - (ndc x).length = i * 26 + j by rw [ndc_length]; omega, this]
end Go.Proofs.YtfmclbacoffdaaaDoor

namespace Go.Proofs.YtfmclbacoffdaaaDoor
open Go.RowKit Go.Sort Go.Joins
/-- a map at block p, its nodes at block q; the bits r say which numbers are taken; m: how many -/
structure TM (w : World) (B p q : Nat) (st : List Nd) (m : Nat) (r : Nat → Bool) : Prop where
  hp : B ≤ p
  hq : B ≤ q
  ne : p ≠ q
  n1 : 1 ≤ st.length
  n2 : st.length ≤ 145
  tbl : ∃ ra rcap, w.heap[p]? = some (.cells #[.slice (some ⟨q, 0, none⟩) st.length st.length, .int .i64 (st.length : Int), .slice ra ((st.length + 63) / 64) rcap, .int .i64 (m : Int)] 95 (0, 0)) ∧
    w.ownsRow B 24 1 (.slice ra ((st.length + 63) / 64) rcap) ((st.length + 63) / 64) (u64s (pack r ((st.length + 63) / 64)))
  nodes : w.heap[q]? = some (.cells (ndCells st).toArray 90 (0, 0))
  rb : ∀ i, st.length ≤ i → r i = false
theorem u_node : 24 ≠ 90 := by decide
theorem u_map : 24 ≠ 95 := by decide
section
variable {w w' : World} {B p q : Nat} {st : List Nd} {m : Nat} {r : Nat → Bool}
theorem TM.below (h : TM w B p q st m r) (hb : Below w.heap.size w w') : TM w' B p q st m r := by
  obtain ⟨ra, rcap, h1, h2⟩ := h.tbl
  exact ⟨h.hp, h.hq, h.ne, h.n1, h.n2, ⟨ra, rcap, by rw [hb.block _ (blk_lt h1)]; exact h1, own_below h2 hb⟩, by rw [hb.block _ (blk_lt h.nodes)]; exact h.nodes, h.rb⟩
/-- one cell of a node is stored -/
theorem TM.cell (h : TM w B p q st m r) {i j : Nat} {v : Value} {y : Nd} (hi : i < st.length) (hj : j < 26) (hy : (ndc (st.getD i ndZ)).set j v = ndc y) : TM (w.setCell ⟨q, i * 26 + j, none⟩ v) B p q (st.set i y) m r := by
  obtain ⟨ra, rcap, h1, h2⟩ := h.tbl
  have o1 := own_ne h2 h.nodes u_node
  have hne := h.ne
  refine ⟨h.hp, h.hq, h.ne, by simpa using h.n1, by simpa using h.n2, ⟨ra, rcap, ?_, ?_⟩, ?_, by simpa using h.rb⟩
  · rw [List.length_set, Below.heap_setCell _ _ _ _ hne]; exact h1
  · rw [List.length_set]
    exact ownsRow_setCell_other h2 (by simpa using o1) _
  · rw [setCell_block h.nodes, ← ndCells_set ndZ st i j v y hi hj hy, List.setIfInBounds_toArray]
/-- many is stored -/
theorem TM.many (h : TM w B p q st m r) (m' : Nat) : TM (w.setCell ⟨p, 3, none⟩ (.int .i64 (m' : Int))) B p q st m' r := by
  obtain ⟨ra, rcap, h1, h2⟩ := h.tbl
  have o2 := own_ne h2 h1 u_map
  have hne := h.ne
  refine ⟨h.hp, h.hq, h.ne, h.n1, h.n2, ⟨ra, rcap, ?_, ?_⟩, ?_, h.rb⟩
  · rw [setCell_block h1]; simp
  · exact ownsRow_setCell_other h2 (by simpa using o2) _
  · rw [Below.heap_setCell _ _ _ _ hne.symm]; exact h.nodes
/-- the bits are stored anew -/
theorem TM.taken {ra' : Option Addr} {rcap' : Nat} {r' : Nat → Bool} (h : TM w B p q st m r) (hb : Below w.heap.size w w') (ho : w'.ownsRow B 24 1 (.slice ra' ((st.length + 63) / 64) rcap') ((st.length + 63) / 64) (u64s (pack r' ((st.length + 63) / 64))))
    (hr : ∀ i, st.length ≤ i → r' i = false) :
    TM ((w'.setCell ⟨p, 1, none⟩ (.int .i64 (st.length : Int))).setCell ⟨p, 2, none⟩ (.slice ra' ((st.length + 63) / 64) rcap')) B p q st m r' := by
  have h' := h.below hb
  obtain ⟨ra, rcap, h1, h2⟩ := h'.tbl
  have o2 := own_ne ho h1 u_map
  have hne := h.ne
  refine ⟨h.hp, h.hq, h.ne, h.n1, h.n2, ⟨ra', rcap', ?_, ?_⟩, ?_, hr⟩
  · rw [setCell_block (setCell_block h1 _) _]; simp
  · exact ownsRow_setCell_other (ownsRow_setCell_other ho (by simpa using o2) _) (by simpa using o2) _
  · rw [Below.heap_setCell _ _ _ _ hne.symm, Below.heap_setCell _ _ _ _ hne.symm]; exact h'.nodes
theorem TM.c0 (h : TM w B p q st m r) : w.cell? ⟨p, 0, none⟩ = some (.slice (some ⟨q, 0, none⟩) st.length st.length) := by
  obtain ⟨ra, rcap, h1, h2⟩ := h.tbl; rw [cell_of_block h1]; rfl
theorem TM.c1 (h : TM w B p q st m r) : w.cell? ⟨p, 1, none⟩ = some (.int .i64 (st.length : Int)) := by
  obtain ⟨ra, rcap, h1, h2⟩ := h.tbl; rw [cell_of_block h1]; rfl
theorem TM.c2 (h : TM w B p q st m r) : ∃ ra rcap, w.cell? ⟨p, 2, none⟩ = some (.slice ra ((st.length + 63) / 64) rcap) ∧ SlK .u64 w ra ((st.length + 63) / 64) (pack r ((st.length + 63) / 64)) := by
  obtain ⟨ra, rcap, h1, h2⟩ := h.tbl; exact ⟨ra, rcap, by rw [cell_of_block h1]; rfl, SlK.of_own h2⟩
theorem TM.c3 (h : TM w B p q st m r) : w.cell? ⟨p, 3, none⟩ = some (.int .i64 (m : Int)) := by
  obtain ⟨ra, rcap, h1, h2⟩ := h.tbl; rw [cell_of_block h1]; rfl
theorem TM.fp (h : TM w B p q st m r) (j : Nat) : w.frozen? ⟨p, j, none⟩ = false := by
  obtain ⟨ra, rcap, h1, h2⟩ := h.tbl; exact unfrozen_of_block h1 j
theorem TM.fq (h : TM w B p q st m r) (j : Nat) : w.frozen? ⟨q, j, none⟩ = false := unfrozen_of_block h.nodes j
theorem TM.at_ (h : TM w B p q st m r) {i j : Nat} (hi : i < st.length) (hj : j < 26) : w.cell? ⟨q, i * 26 + j, none⟩ = (ndc (st.getD i ndZ))[j]? := by
  rw [cell_of_block h.nodes, List.getElem?_toArray]; exact ndCells_get ndZ st i j hi hj
theorem TM.lv (h : TM w B p q st m r) {i : Nat} (hi : i < st.length) : w.cell? ⟨q, i * 26, none⟩ = some (.int .i64 (st.getD i ndZ).lv) := (h.at_ (j := 0) hi (by decide)).trans (ndc_lv _)
theorem TM.mn (h : TM w B p q st m r) {i : Nat} (hi : i < st.length) : w.cell? ⟨q, i * 26 + 1, none⟩ = some (.int .i64 ((st.getD i ndZ).mn : Int)) := (h.at_ (j := 1) hi (by decide)).trans (ndc_mn _)
theorem TM.kd (h : TM w B p q st m r) {i k : Nat} (hi : i < st.length) (hk : k < 16) : w.cell? ⟨q, i * 26 + 2 + k, none⟩ = some (.int .i64 ((st.getD i ndZ).kd k : Int)) := by
  rw [Nat.add_assoc, h.at_ hi (by omega), ndc_kd _ hk]
theorem TM.wd (h : TM w B p q st m r) {i k : Nat} (hi : i < st.length) (hk : k < 8) : w.cell? ⟨q, i * 26 + 18 + k, none⟩ = some (.int .u64 ((st.getD i ndZ).wd k : Int)) := by
  rw [Nat.add_assoc, h.at_ hi (by omega), ndc_wd _ hk]
theorem TM.chk0 (h : TM w B p q st m r) : chk st.length (pack r ((st.length + 63) / 64)) = 0 := by
  have := h.n2
  refine chk_ok (by omega) (by rw [pack_length]; omega) fun i hi hn => ?_
  rw [pack_length] at hi
  rw [pack_bat _ _ _ hi]
  exact h.rb i (by omega)
theorem TM.lp (h : TM w B p q st m r) : p < w.heap.size := by obtain ⟨ra, rcap, h1, h2⟩ := h.tbl; exact blk_lt h1
theorem TM.lq (h : TM w B p q st m r) : q < w.heap.size := blk_lt h.nodes
end
end Go.Proofs.YtfmclbacoffdaaaDoor

namespace Go.Proofs.YtfmclbacoffdaaaDoor
/-- the middle node of a page -/
def mdI (st : List Nd) (p : Nat) : Nat := (st.getD 0 ndZ).kd (p / 64)
/-- the leaf of a page -/
def lfI (st : List Nd) (p : Nat) : Nat := if mdI st p = 0 then 0 else (st.getD (mdI st p) ndZ).kd (p / 8 % 8)
/-- the word of a page -/
def wdI (st : List Nd) (p : Nat) : Nat := if lfI st p = 0 then 0 else (st.getD (lfI st p) ndZ).wd (p % 8)
/-- how many nodes must be made for n pages from p on -/
def needF (st : List Nd) : Nat → Nat → Int → Int → Nat
  | 0, _, _, _ => 0
  | n + 1, p, big, small => (if mdI st p = 0 ∧ ((p / 64 : Nat) : Int) ≠ big then 1 else 0) + (if lfI st p = 0 ∧ ((p / 8 : Nat) : Int) ≠ small then 1 else 0) + needF st n (p + 1) ((p / 64 : Nat) : Int) ((p / 8 : Nat) : Int)
/-- a map: nodes, how many, which numbers are taken -/
structure RM where
  st : List Nd
  m : Nat
  r : Nat → Bool
/-- the least number that is free -/
def frI (X : RM) : Nat := nxt (fun i => !X.r i) 0 X.st.length
def takeM (X : RM) (i : Nat) (l : Int) : RM := ⟨X.st.set i (nd0 l), X.m + 1, filled X.r i (i + 1) true⟩
/-- a node with a kid more -/
def kidN (n : Nd) (k v : Nat) : Nd := { n with kd := upd n.kd k v, mn := n.mn + 1 }
def growM (X : RM) (i k : Nat) : RM :=
  { takeM X (frI X) ((X.st.getD i ndZ).lv + 1) with st := (X.st.set (frI X) (nd0 ((X.st.getD i ndZ).lv + 1))).set i (kidN ((X.st.set (frI X) (nd0 ((X.st.getD i ndZ).lv + 1))).getD i ndZ) k (frI X)) }
/-- a leaf with a word more -/
def wordN (n : Nd) (k x : Nat) : Nd := { n with wd := upd n.wd k x, mn := n.mn + (if n.wd k = 0 then 1 else 0) }
/-- the map after the middle node of a page is made; that node -/
def putA (X : RM) (p : Nat) : RM := if mdI X.st p = 0 then growM X 0 (p / 64) else X
def putAI (X : RM) (p : Nat) : Nat := if mdI X.st p = 0 then frI X else mdI X.st p
/-- .. after its leaf is made; that leaf -/
def putB (X : RM) (p : Nat) : RM := if lfI X.st p = 0 then growM (putA X p) (putAI X p) (p / 8 % 8) else putA X p
def putBI (X : RM) (p : Nat) : Nat := if lfI X.st p = 0 then frI (putA X p) else lfI X.st p
/-- a page gets a word -/
def putM (X : RM) (x p : Nat) : RM := { putB X p with st := (putB X p).st.set (putBI X p) (wordN ((putB X p).st.getD (putBI X p) ndZ) (p % 8) x) }
/-- does it go well? -/
def putOk (X : RM) (p : Nat) : Bool :=
  decide (mdI X.st p < X.st.length) && (decide (mdI X.st p ≠ 0) || decide (frI X < X.st.length)) && decide (putAI X p < X.st.length) &&
  decide (lfI X.st p < X.st.length) && (decide (lfI X.st p ≠ 0) || decide (frI (putA X p) < X.st.length)) && decide (putBI X p < X.st.length)
/-- n pages from p on -/
def setM (x : Nat) : Nat → RM → Nat → RM
  | 0, X, _ => X
  | n + 1, X, p => putM (setM x n X p) x (p + n)
def setOk (x n : Nat) (X : RM) (p : Nat) : Bool := (List.range n).all fun j => putOk (setM x j X p) (p + j)
theorem growM_len (X : RM) (i k : Nat) : (growM X i k).st.length = X.st.length := by simp [growM]
theorem putA_len (X : RM) (p : Nat) : (putA X p).st.length = X.st.length := by unfold putA; split <;> simp [growM_len]
theorem putB_len (X : RM) (p : Nat) : (putB X p).st.length = X.st.length := by unfold putB; split <;> simp [growM_len, putA_len]
theorem putM_len (X : RM) (x p : Nat) : (putM X x p).st.length = X.st.length := by simp [putM, putB_len]
/-- a new map -/
def newM (n : Nat) : RM := ⟨(List.replicate n (nd0 (-1))).set 0 (nd0 0), 1, filled (fun _ => false) 0 1 true⟩
theorem setM_len (x : Nat) (X : RM) (p : Nat) : ∀ n, (setM x n X p).st.length = X.st.length
  | 0 => rfl
  | n + 1 => by simp [setM, putM_len, setM_len x X p n]
theorem setOk_at {x n : Nat} {X : RM} {p : Nat} (h : setOk x n X p = true) {j : Nat} (hj : j < n) : putOk (setM x j X p) (p + j) = true := List.all_eq_true.1 h j (List.mem_range.2 hj)
theorem putOk_parts {X : RM} {p : Nat} (h : putOk X p = true) : mdI X.st p < X.st.length ∧ (mdI X.st p = 0 → frI X < X.st.length) ∧ putAI X p < X.st.length ∧ lfI X.st p < X.st.length ∧ (lfI X.st p = 0 → frI (putA X p) < X.st.length) ∧ putBI X p < X.st.length := by
  unfold putOk at h
  simp only [Bool.and_eq_true, Bool.or_eq_true, decide_eq_true_eq] at h
  obtain ⟨⟨⟨⟨⟨h1, h2⟩, h3⟩, h4⟩, h5⟩, h6⟩ := h
  exact ⟨h1, fun e => h2.resolve_left (fun h => h e), h3, h4, fun e => h5.resolve_left (fun h => h e), h6⟩
/-- the awake map -/
def awM : RM := setM 401419 2 (newM 4) 7
theorem aw_1 : setOk 401419 2 (newM 4) 7 = true ∧ needF (newM 4).st 2 7 (-1) (-1) = 3 ∧ awM.m = 4 ∧ needF awM.st 1 64 (-1) (-1) = 2 ∧ awM.st.length = 4 ∧ wdI awM.st 9 = 0 := by decide +kernel
end Go.Proofs.YtfmclbacoffdaaaDoor

namespace Go.Proofs.YtfmclbacoffdaaaDoor
open Go.RowKit Go.Sort Go.Joins

theorem slotCells_replicate (s : Slt) : ∀ (n k : Nat), k < n * 3 → (slotCells (List.replicate n s))[k]? = (sc s)[k % 3]?
  | 0, k, h => by omega
  | n + 1, k, h => by
    rw [List.replicate_succ]
    simp only [slotCells]
    by_cases hk : k < 3
    · rw [List.getElem?_append_left (by simp [sc]; omega), Nat.mod_eq_of_lt hk]
    · rw [List.getElem?_append_right (by simp [sc]; omega), show k - (sc s).length = k - 3 by simp [sc], slotCells_replicate s n (k - 3) (by omega), show (k - 3) % 3 = k % 3 by omega]
theorem made_slots (n : Nat) (z : Value) : (madeCells #[.int .i64 0, .bool false, z] (n * 3)).toList = slotCells (List.replicate n (0, false, z)) := by
  apply List.ext_getElem?
  intro k
  by_cases hk : k < n * 3
  · rw [slotCells_replicate _ _ _ hk]
    have h3 : k % 3 < 3 := Nat.mod_lt _ (by decide)
    simp only [madeCells, Array.toList_map, Array.toList_range, List.getElem?_map, List.getElem?_range hk, Option.map_some]
    obtain ⟨j, hj⟩ : ∃ j, j = k % 3 := ⟨_, rfl⟩
    have e : k % (#[Value.int .i64 0, .bool false, z] : Array Value).size = j := by rw [hj]; rfl
    rw [e, ← hj]
    rw [← hj] at h3
    match j, h3 with
    | 0, _ => rfl
    | 1, _ => rfl
    | 2, _ => rfl
  · rw [List.getElem?_eq_none (by simp [madeCells]; omega), List.getElem?_eq_none (by rw [slotCells_length, List.length_replicate]; omega)]
end Go.Proofs.YtfmclbacoffdaaaDoor

namespace Go.Proofs.YtfmclbacoffdaaaDoor
open Go.RowKit Go.Sort Go.Joins

theorem nxt_congr {p q : Nat → Bool} {a n : Nat} (han : a ≤ n) (h : ∀ i, a ≤ i → i < n → p i = q i) : nxt p a n = nxt q a n := by
  obtain ⟨h1, h2, h3, h4⟩ := nxt_spec (p := q) han
  exact nxt_eq han h1 h2 (fun i hi hj => by rw [h i hi (by omega)]; exact h3 i hi hj) (fun hlt => by rw [h _ h1 hlt]; exact h4 hlt)
theorem next_tb {TBL SLOT : TypeId} {w : World} {B p q : Nat} {st : List Slt} {m : Nat} {r : Nat → Bool} (h : Tb TBL SLOT w B p q st m r) :
    nextV st.length (pack r ((st.length + 63) / 64)) 0 true = (if nxt r 0 st.length < st.length then ((nxt r 0 st.length : Nat) : Int) else 0) ∧
    nextE st.length (pack r ((st.length + 63) / 64)) 0 true = (if nxt r 0 st.length < st.length then 0 else 4) := by
  have e : nxt (look (pack r ((st.length + 63) / 64)) true) 0 st.length = nxt r 0 st.length := nxt_congr (Nat.zero_le _) fun i _ hi => by
    unfold look
    rw [pack_bat _ _ _ (by omega)]; simp
  have hp : prt st.length (pack r ((st.length + 63) / 64)) 0 0 = 0 := prt_ok h.chk0 (by omega)
  unfold nextV nextE
  simp only [Int.toNat_natCast, hp, Int.toNat_zero, e]
  simp
end Go.Proofs.YtfmclbacoffdaaaDoor

namespace Go.Proofs.YtfmclbacoffdaaaDoor
section
open Go.RowKit Go.Sort Go.Joins
theorem next_tm {w : World} {B p q : Nat} {st : List Nd} {m : Nat} {r : Nat → Bool} (h : TM w B p q st m r) :
    nextV st.length (pack r ((st.length + 63) / 64)) 0 false = (if nxt (fun i => !r i) 0 st.length < st.length then ((nxt (fun i => !r i) 0 st.length : Nat) : Int) else 0) ∧
    nextE st.length (pack r ((st.length + 63) / 64)) 0 false = (if nxt (fun i => !r i) 0 st.length < st.length then 0 else 4) := by
  have e : nxt (look (pack r ((st.length + 63) / 64)) false) 0 st.length = nxt (fun i => !r i) 0 st.length := nxt_congr (Nat.zero_le _) fun i _ hi => by
    unfold look
    rw [pack_bat _ _ _ (by omega)]; simp
  have hp : prt st.length (pack r ((st.length + 63) / 64)) 0 0 = 0 := prt_ok h.chk0 (by omega)
  unfold nextV nextE
  simp only [Int.toNat_natCast, hp, Int.toNat_zero, e]
  simp
end
end Go.Proofs.YtfmclbacoffdaaaDoor

namespace Go.Proofs.YtfmclbacoffdaaaDoor
abbrev RM.N (X : RM) (i : Nat) : Nd := X.st.getD i ndZ
def sumN (f : Nat → Nat) : Nat → Nat
  | 0 => 0
  | n + 1 => sumN f n + f n
theorem sumN_congr {f g : Nat → Nat} : ∀ n, (∀ j, j < n → f j = g j) → sumN f n = sumN g n
  | 0, _ => rfl
  | n + 1, h => by simp only [sumN]; rw [sumN_congr n fun j hj => h j (by omega), h n (by omega)]
theorem sumN_at {f g : Nat → Nat} {k : Nat} : ∀ n, k < n → (∀ j, j < n → j ≠ k → f j = g j) → sumN g n + f k = sumN f n + g k
  | 0, h, _ => by omega
  | n + 1, h, hne => by
    simp only [sumN]
    by_cases e : k = n
    · subst e
      rw [sumN_congr k fun j hj => hne j (by omega) (by omega)]
      omega
    · have := sumN_at n (by omega) fun j hj => hne j (by omega)
      rw [hne n (by omega) (fun h => e h.symm)]
      omega
theorem sumN_zero {f : Nat → Nat} : ∀ n, (∀ j, j < n → f j = 0) → sumN f n = 0
  | 0, _ => rfl
  | n + 1, h => by simp only [sumN]; rw [sumN_zero n fun j hj => h j (by omega), h n (by omega)]
/-- how many leaves a middle node has -/
def kidC (n : Nd) : Nat := sumN (fun j => if n.kd j = 0 then 0 else 1) 8
/-- how many nodes hang at the root, and it -/
def treeC (X : RM) : Nat := 1 + sumN (fun k => if (X.N 0).kd k = 0 then 0 else 1 + kidC (X.N ((X.N 0).kd k))) 16
/-- what always holds -/
structure RInv (X : RM) : Prop where
  n1 : 1 ≤ X.st.length
  root : (X.N 0).lv = 0
  rt : ∀ i, i < X.st.length → X.r i = decide (0 ≤ (X.N i).lv)
  rb : ∀ i, X.st.length ≤ i → X.r i = false
  cn : X.m = cnt X.r 0 X.st.length
  k0 : ∀ k, k < 16 → (X.N 0).kd k ≠ 0 → (X.N 0).kd k < X.st.length ∧ (X.N ((X.N 0).kd k)).lv = 1
  k1 : ∀ i, i < X.st.length → (X.N i).lv = 1 → ∀ k, k < 8 → (X.N i).kd k ≠ 0 → (X.N i).kd k < X.st.length ∧ (X.N ((X.N i).kd k)).lv = 2
  i0 : ∀ k k', k < 16 → k' < 16 → (X.N 0).kd k ≠ 0 → (X.N 0).kd k = (X.N 0).kd k' → k = k'
  i1 : ∀ i i' k k', i < X.st.length → i' < X.st.length → (X.N i).lv = 1 → (X.N i').lv = 1 → k < 8 → k' < 8 → (X.N i).kd k ≠ 0 → (X.N i).kd k = (X.N i').kd k' → i = i' ∧ k = k'
  tree : X.m = treeC X
theorem cnt_fill {r : Nat → Bool} {f : Nat} (hf : r f = false) : ∀ n, cnt (filled r f (f + 1) true) 0 n = cnt r 0 n + (if f < n then 1 else 0)
  | 0 => by simp [cnt]
  | n + 1 => by
    have ih := cnt_fill hf n
    have e1 : cnt (filled r f (f + 1) true) 0 (n + 1) = cnt (filled r f (f + 1) true) 0 n + if filled r f (f + 1) true n = true then 1 else 0 := by simp [cnt]
    have e2 : cnt r 0 (n + 1) = cnt r 0 n + if r n = true then 1 else 0 := by simp [cnt]
    rw [e1, e2, ih]
    by_cases e : n = f
    · subst e
      have : filled r n (n + 1) true n = true := by unfold filled; rw [if_pos (by omega)]
      rw [this, hf, if_pos rfl, if_neg (by omega), if_neg (by decide), if_pos (by omega)]
    · have : filled r f (f + 1) true n = r n := by unfold filled; rw [if_neg (by omega)]
      rw [this]
      by_cases h : f < n
      · rw [if_pos h, if_pos (show f < n + 1 by omega)]; omega
      · rw [if_neg h, if_neg (show ¬ f < n + 1 by omega)]; omega
section
variable {X : RM}
theorem N_set {st : List Nd} {i j : Nat} {y : Nd} (hi : i < st.length) : (st.set i y).getD j ndZ = if j = i then y else st.getD j ndZ := by
  simp only [List.getD, List.getElem?_set]
  by_cases e : i = j
  · subst e; simp [hi]
  · rw [if_neg e, if_neg (fun h => e h.symm)]
/-- a free number -/
theorem fr_spec (hf : frI X < X.st.length) : X.r (frI X) = false := by
  have h1 := (nxt_spec (p := fun i => !X.r i) (a := 0) (n := X.st.length) (Nat.zero_le _)).2.2.2 hf
  have h2 : (!X.r (frI X)) = true := h1
  simpa using h2
theorem RInv.fr (h : RInv X) (hf : frI X < X.st.length) : (X.N (frI X)).lv < 0 ∧ frI X ≠ 0 := by
  have h1 := fr_spec hf
  rw [h.rt _ hf] at h1
  have h2 : ¬ 0 ≤ (X.N (frI X)).lv := of_decide_eq_false h1
  refine ⟨by omega, fun e => ?_⟩
  rw [e, h.root] at h2
  omega
/-- the nodes after a node is made -/
theorem growM_N {i k : Nat} (hi : i < X.st.length) (hf : frI X < X.st.length) (hne : frI X ≠ i) (j : Nat) :
    (growM X i k).N j = if j = i then kidN (X.N i) k (frI X) else if j = frI X then nd0 ((X.N i).lv + 1) else X.N j := by
  show ((X.st.set (frI X) (nd0 ((X.st.getD i ndZ).lv + 1))).set i (kidN ((X.st.set (frI X) (nd0 ((X.st.getD i ndZ).lv + 1))).getD i ndZ) k (frI X))).getD j ndZ = _
  rw [N_set (by rw [List.length_set]; exact hi)]
  by_cases e : j = i
  · rw [if_pos e, if_pos e, N_set hf, if_neg (fun h => hne h.symm)]
  · rw [if_neg e, if_neg e, N_set hf]
/-- room for one more: a free number -/
theorem RInv.room (h : RInv X) (hm : X.m < X.st.length) : frI X < X.st.length := by
  obtain ⟨h1, h2, h3, h4⟩ := nxt_spec (p := fun i => !X.r i) (a := 0) (n := X.st.length) (Nat.zero_le _)
  rcases Nat.lt_or_ge (frI X) X.st.length with h5 | h5
  · exact h5
  · exfalso
    have hall : ∀ i, i < X.st.length → X.r i = true := fun i hi => by
      have := h3 i (Nat.zero_le _) (by unfold frI at h5; omega)
      simpa using this
    have hc : ∀ n, n ≤ X.st.length → cnt X.r 0 n = n := fun n => by
      induction n with
      | zero => intro _; simp [cnt]
      | succ n ih =>
        intro hn
        have e2 : cnt X.r 0 (n + 1) = cnt X.r 0 n + if X.r n = true then 1 else 0 := by simp [cnt]
        rw [e2, ih (by omega), hall n (by omega), if_pos rfl]
    have := h.cn
    rw [hc _ (Nat.le_refl _)] at this
    omega
/-- a middle node is made -/
theorem RInv.grow0 (h : RInv X) (hf : frI X < X.st.length) {k : Nat} (hk : k < 16) (h0 : (X.N 0).kd k = 0) : RInv (growM X 0 k) := by
  obtain ⟨hlf, hf0⟩ := h.fr hf
  have hN := growM_N (k := k) h.n1 hf hf0
  have hl : (growM X 0 k).st.length = X.st.length := growM_len X 0 k
  have hr : (growM X 0 k).r = filled X.r (frI X) (frI X + 1) true := rfl
  have hm : (growM X 0 k).m = X.m + 1 := rfl
  generalize hF : frI X = f at *
  have hk0 : ((growM X 0 k).N 0).kd = upd (X.N 0).kd k f := by rw [hN 0, if_pos rfl]; rfl
  have hlv : ∀ j, j ≠ f → ((growM X 0 k).N j).lv = (X.N j).lv := fun j hj => by
    rw [hN j]
    by_cases e : j = 0
    · rw [if_pos e, e]; rfl
    · rw [if_neg e, if_neg hj]
  have hlvf : ((growM X 0 k).N f).lv = 1 := by rw [hN f, if_neg hf0, if_pos rfl, h.root]; rfl
  have hkf : ((growM X 0 k).N f).kd = fun _ => 0 := by rw [hN f, if_neg hf0, if_pos rfl]; rfl
  have hkd : ∀ j, j ≠ 0 → j ≠ f → ((growM X 0 k).N j).kd = (X.N j).kd := fun j h1 h2 => by rw [hN j, if_neg h1, if_neg h2]
  have hkne : ∀ j, j < 16 → (X.N 0).kd j ≠ 0 → (X.N 0).kd j ≠ f := fun j hj h1 e => by
    have := (h.k0 j hj h1).2
    rw [e] at this; omega
  have h1ne : ∀ i, (X.N i).lv = 1 → i ≠ 0 ∧ i ≠ f := fun i hi => ⟨fun e => by rw [e, h.root] at hi; omega, fun e => by rw [e] at hi; omega⟩
  have hk1ne : ∀ i, i < X.st.length → (X.N i).lv = 1 → ∀ j, j < 8 → (X.N i).kd j ≠ 0 → (X.N i).kd j ≠ f := fun i hi h1 j hj h2 e => by
    have := (h.k1 i hi h1 j hj h2).2
    rw [e] at this; omega
  refine ⟨by rw [hl]; exact h.n1, by rw [hlv 0 (fun e => hf0 e.symm)]; exact h.root, fun i hi => ?_, fun i hi => ?_, ?_, fun j hj hne => ?_, fun i hi h1 j hj hne => ?_, fun j j' hj hj' hne he => ?_, fun i i' j j' hi hi' h1 h1' hj hj' hne he => ?_, ?_⟩
  · rw [hr]
    unfold filled
    by_cases e : i = f
    · subst e; rw [if_pos (by omega), hlvf]; rfl
    · rw [if_neg (by omega), hlv i e]; exact h.rt i (by omega)
  · rw [hr]; unfold filled; rw [if_neg (by omega)]; exact h.rb i (by omega)
  · rw [hm, hr, hl, cnt_fill (by rw [← hF]; exact fr_spec (by omega)), if_pos hf, h.cn]
  · rw [hk0] at hne ⊢
    unfold upd at hne ⊢
    by_cases e : j = k
    · rw [if_pos e, hl, hlvf]; exact ⟨hf, rfl⟩
    · rw [if_neg e] at hne ⊢
      rw [hl, hlv _ (hkne j hj hne)]
      exact h.k0 j hj hne
  · rw [hl] at hi ⊢
    by_cases e : i = f
    · subst e; rw [hkf] at hne; exact absurd rfl hne
    · rw [hlv i e] at h1
      rw [hkd i (h1ne i h1).1 e] at hne ⊢
      rw [hlv _ (hk1ne i hi h1 j hj hne)]
      exact h.k1 i hi h1 j hj hne
  · rw [hk0] at hne he
    unfold upd at hne he
    by_cases e : j = k
    · by_cases e' : j' = k
      · omega
      · rw [if_pos e, if_neg e'] at he
        rw [if_pos e] at hne
        exact absurd he.symm (hkne j' hj' (by omega))
    · rw [if_neg e] at he hne
      by_cases e' : j' = k
      · rw [if_pos e'] at he; exact absurd he (hkne j hj hne)
      · rw [if_neg e'] at he; exact h.i0 j j' hj hj' hne he
  · rw [hl] at hi hi'
    by_cases e : i = f
    · subst e; rw [hkf] at hne; exact absurd rfl hne
    · by_cases e' : i' = f
      · subst e'; rw [hkf] at he; exact absurd he hne
      · rw [hlv i e] at h1
        rw [hlv i' e'] at h1'
        rw [hkd i (h1ne i h1).1 e] at hne he
        rw [hkd i' (h1ne i' h1').1 e'] at he
        exact h.i1 i i' j j' hi hi' h1 h1' hj hj' hne he
  · rw [hm, h.tree]
    unfold treeC
    rw [hk0]
    have := sumN_at (f := fun q => if (X.N 0).kd q = 0 then 0 else 1 + kidC (X.N ((X.N 0).kd q))) (g := fun q => if upd (X.N 0).kd k f q = 0 then 0 else 1 + kidC ((growM X 0 k).N (upd (X.N 0).kd k f q))) 16 hk (fun j hj hne => by
      unfold upd
      rw [if_neg hne]
      by_cases e : (X.N 0).kd j = 0
      · rw [if_pos e, if_pos e]
      · rw [if_neg e, if_neg e]
        have h1 := (h.k0 j hj e).2
        unfold kidC
        rw [hkd _ (h1ne _ h1).1 (hkne j hj e)])
    unfold upd at this ⊢
    rw [if_pos h0, if_pos rfl, if_neg hf0] at this
    have hz : kidC ((growM X 0 k).N f) = 0 := by unfold kidC; rw [hkf]; exact sumN_zero 8 (fun j _ => by simp)
    rw [hz] at this
    omega
end
end Go.Proofs.YtfmclbacoffdaaaDoor

namespace Go.Proofs.YtfmclbacoffdaaaDoor
section
variable {X : RM}
/-- a leaf is made -/
theorem RInv.grow1 (h : RInv X) (hf : frI X < X.st.length) {i a k : Nat} (ha : a < 16) (hai : (X.N 0).kd a = i) (hi0 : i ≠ 0) (hk : k < 8) (h0 : (X.N i).kd k = 0) : RInv (growM X i k) := by
  obtain ⟨hlf, hf0⟩ := h.fr hf
  obtain ⟨hi, hli⟩ := h.k0 a ha (by rw [hai]; exact hi0)
  rw [hai] at hi hli
  have hfi : frI X ≠ i := fun e => by rw [e] at hlf; omega
  have hN := growM_N (k := k) hi hf hfi
  have hl : (growM X i k).st.length = X.st.length := growM_len X i k
  have hr : (growM X i k).r = filled X.r (frI X) (frI X + 1) true := rfl
  have hm : (growM X i k).m = X.m + 1 := rfl
  generalize hF : frI X = f at *
  have hki : ((growM X i k).N i).kd = upd (X.N i).kd k f := by rw [hN i, if_pos rfl]; rfl
  have hlv : ∀ j, j ≠ f → ((growM X i k).N j).lv = (X.N j).lv := fun j hj => by
    rw [hN j]
    by_cases e : j = i
    · rw [if_pos e, e]; rfl
    · rw [if_neg e, if_neg hj]
  have hlvf : ((growM X i k).N f).lv = 2 := by rw [hN f, if_neg hfi, if_pos rfl, hli]; rfl
  have hkf : ((growM X i k).N f).kd = fun _ => 0 := by rw [hN f, if_neg hfi, if_pos rfl]; rfl
  have hkd : ∀ j, j ≠ i → j ≠ f → ((growM X i k).N j).kd = (X.N j).kd := fun j h1 h2 => by rw [hN j, if_neg h1, if_neg h2]
  have hk00 : ((growM X i k).N 0).kd = (X.N 0).kd := hkd 0 (fun e => hi0 e.symm) (fun e => hf0 e.symm)
  have hkne : ∀ j, j < 16 → (X.N 0).kd j ≠ 0 → (X.N 0).kd j ≠ f := fun j hj h1 e => by
    have := (h.k0 j hj h1).2
    rw [e] at this; omega
  have h1ne : ∀ i, (X.N i).lv = 1 → i ≠ 0 ∧ i ≠ f := fun i hi => ⟨fun e => by rw [e, h.root] at hi; omega, fun e => by rw [e] at hi; omega⟩
  have hk1ne : ∀ i, i < X.st.length → (X.N i).lv = 1 → ∀ j, j < 8 → (X.N i).kd j ≠ 0 → (X.N i).kd j ≠ f := fun i hi h1 j hj h2 e => by
    have := (h.k1 i hi h1 j hj h2).2
    rw [e] at this; omega
  have hlv1 : ∀ j, ((growM X i k).N j).lv = 1 → j ≠ f ∧ (X.N j).lv = 1 := fun j hj => by
    by_cases e : j = f
    · rw [e, hlvf] at hj; omega
    · rw [hlv j e] at hj; exact ⟨e, hj⟩
  refine ⟨by rw [hl]; exact h.n1, by rw [hlv 0 (fun e => hf0 e.symm)]; exact h.root, fun j hj => ?_, fun j hj => ?_, ?_, fun j hj hne => ?_, fun j hj h1 q hq hne => ?_, fun j j' hj hj' hne he => ?_, fun j j' q q' hj hj' h1 h1' hq hq' hne he => ?_, ?_⟩
  · rw [hr]
    unfold filled
    by_cases e : j = f
    · subst e; rw [if_pos (by omega), hlvf]; rfl
    · rw [if_neg (by omega), hlv j e]; exact h.rt j (by omega)
  · rw [hr]; unfold filled; rw [if_neg (by omega)]; exact h.rb j (by omega)
  · rw [hm, hr, hl, cnt_fill (by rw [← hF]; exact fr_spec (by omega)), if_pos hf, h.cn]
  · rw [hk00] at hne ⊢
    rw [hl, hlv _ (hkne j hj hne)]
    exact h.k0 j hj hne
  · rw [hl] at hj ⊢
    obtain ⟨e, h1'⟩ := hlv1 j h1
    by_cases ei : j = i
    · subst ei
      rw [hki] at hne ⊢
      unfold upd at hne ⊢
      by_cases ek : q = k
      · rw [if_pos ek, hlvf]; exact ⟨hf, rfl⟩
      · rw [if_neg ek] at hne ⊢
        rw [hlv _ (hk1ne j hj h1' q hq hne)]
        exact h.k1 j hj h1' q hq hne
    · rw [hkd j ei e] at hne ⊢
      rw [hlv _ (hk1ne j hj h1' q hq hne)]
      exact h.k1 j hj h1' q hq hne
  · rw [hk00] at hne he
    exact h.i0 j j' hj hj' hne he
  · rw [hl] at hj hj'
    obtain ⟨e, g1⟩ := hlv1 j h1
    obtain ⟨e', g1'⟩ := hlv1 j' h1'
    have key : ∀ b, b ≠ f → ((growM X i k).N b).kd = if b = i then upd (X.N i).kd k f else (X.N b).kd := fun b hb => by
      by_cases eb : b = i
      · rw [if_pos eb, eb, hki]
      · rw [if_neg eb, hkd b eb hb]
    rw [key j e] at hne he
    rw [key j' e'] at he
    by_cases ej : j = i
    · by_cases ej' : j' = i
      · rw [if_pos ej] at hne he
        rw [if_pos ej'] at he
        unfold upd at hne he
        by_cases eq : q = k
        · by_cases eq' : q' = k
          · omega
          · rw [if_pos eq, if_neg eq'] at he
            rw [if_pos eq] at hne
            exact absurd he.symm (hk1ne i hi hli q' hq' (by omega))
        · rw [if_neg eq] at he hne
          by_cases eq' : q' = k
          · rw [if_pos eq'] at he; exact absurd he (hk1ne i hi hli q hq hne)
          · rw [if_neg eq'] at he
            have := h.i1 i i q q' hi hi hli hli hq hq' hne he
            omega
      · rw [if_pos ej] at hne he
        rw [if_neg ej'] at he
        unfold upd at hne he
        by_cases eq : q = k
        · rw [if_pos eq] at he hne
          exact absurd he.symm (hk1ne j' hj' g1' q' hq' (by omega))
        · rw [if_neg eq] at he hne
          have := h.i1 i j' q q' hi hj' hli g1' hq hq' hne he
          omega
    · rw [if_neg ej] at hne he
      by_cases ej' : j' = i
      · rw [if_pos ej'] at he
        unfold upd at he
        by_cases eq' : q' = k
        · rw [if_pos eq'] at he
          exact absurd he (hk1ne j hj g1 q hq hne)
        · rw [if_neg eq'] at he
          have := h.i1 j i q q' hj hi g1 hli hq hq' hne he
          omega
      · rw [if_neg ej'] at he
        exact h.i1 j j' q q' hj hj' g1 g1' hq hq' hne he
  · rw [hm, h.tree]
    unfold treeC
    rw [hk00]
    have := sumN_at (f := fun q => if (X.N 0).kd q = 0 then 0 else 1 + kidC (X.N ((X.N 0).kd q))) (g := fun q => if (X.N 0).kd q = 0 then 0 else 1 + kidC ((growM X i k).N ((X.N 0).kd q))) 16 ha (fun j hj hne => by
      by_cases e : (X.N 0).kd j = 0
      · rw [if_pos e, if_pos e]
      · rw [if_neg e, if_neg e]
        have e2 : (X.N 0).kd j ≠ i := fun e3 => hne (h.i0 j a hj ha e (by rw [e3, hai]))
        unfold kidC
        rw [hkd _ e2 (hkne j hj e)])
    rw [hai, if_neg hi0, if_neg hi0] at this
    have hz : kidC ((growM X i k).N i) = kidC (X.N i) + 1 := by
      unfold kidC
      rw [hki]
      have := sumN_at (f := fun j => if (X.N i).kd j = 0 then 0 else 1) (g := fun j => if upd (X.N i).kd k f j = 0 then 0 else 1) 8 hk (fun j hj hne => by
        unfold upd
        rw [if_neg hne])
      unfold upd at this ⊢
      rw [if_pos h0, if_pos rfl, if_neg hf0] at this
      omega
    rw [hz] at this
    omega
/-- a word is given: kids and levels stay -/
theorem RInv.same (h : RInv X) {Y : RM} (hl : Y.st.length = X.st.length) (hr : Y.r = X.r) (hm : Y.m = X.m) (hlv : ∀ j, (Y.N j).lv = (X.N j).lv) (hkd : ∀ j, (Y.N j).kd = (X.N j).kd) : RInv Y := by
  refine ⟨by rw [hl]; exact h.n1, by rw [hlv]; exact h.root, fun i hi => ?_, fun i hi => ?_, ?_, fun j hj hne => ?_, fun i hi h1 j hj hne => ?_, fun j j' hj hj' hne he => ?_, fun i i' j j' hi hi' h1 h1' hj hj' hne he => ?_, ?_⟩
  · rw [hr, hlv]; exact h.rt i (by omega)
  · rw [hr]; exact h.rb i (by omega)
  · rw [hm, hr, hl]; exact h.cn
  · rw [hkd] at hne ⊢; rw [hl, hlv]; exact h.k0 j hj hne
  · rw [hl] at hi; rw [hlv] at h1; rw [hkd] at hne ⊢; rw [hl, hlv]; exact h.k1 i hi h1 j hj hne
  · rw [hkd] at hne he; exact h.i0 j j' hj hj' hne he
  · rw [hl] at hi hi'; rw [hlv] at h1 h1'; rw [hkd] at hne he; rw [hkd] at he; exact h.i1 i i' j j' hi hi' h1 h1' hj hj' hne he
  · rw [hm, h.tree]
    unfold treeC kidC
    simp only [hkd]
theorem RInv.word (h : RInv X) {l k x : Nat} (hl : l < X.st.length) : RInv { X with st := X.st.set l (wordN (X.N l) k x) } := by
  have hN : ∀ j, ({ X with st := X.st.set l (wordN (X.N l) k x) } : RM).N j = if j = l then wordN (X.N l) k x else X.N j := fun j => N_set hl
  refine h.same (by simp) rfl rfl (fun j => ?_) (fun j => ?_)
  · rw [hN]; split
    · rename_i e; rw [e]; rfl
    · rfl
  · rw [hN]; split
    · rename_i e; rw [e]; rfl
    · rfl
end
end Go.Proofs.YtfmclbacoffdaaaDoor
