/- The radix map, plain: nodes and their cells. -/
import Derived.Test.YtfmclbacoffdaaaDoorHPlain
namespace Go.Proofs.YtfmclbacoffdaaaDoor
open Go.RowKit Go.Sort Go.Joins
/-- a node: Level, how many kids or words it has, these -/
structure Nd where
  lv : Int
  mn : Nat
  kd : Nat → Nat
  wd : Nat → Nat
def nd0 (l : Int) : Nd := ⟨l, 0, fun _ => 0, fun _ => 0⟩
abbrev ndZ : Nd := nd0 0
instance : Inhabited Nd := ⟨nd0 0⟩
def ndc (x : Nd) : List Value := [.int .i64 x.lv, .int .i64 (x.mn : Int)] ++ (List.range 16).map (fun k => .int .i64 (x.kd k : Int)) ++ (List.range 8).map (fun k => .int .u64 (x.wd k : Int))
def ndCells (st : List Nd) : List Value := st.flatMap ndc
theorem ndc_length (x : Nd) : (ndc x).length = 26 := by simp [ndc]
theorem ndc_lv (x : Nd) : (ndc x)[0]? = some (.int .i64 x.lv) := rfl
theorem ndc_mn (x : Nd) : (ndc x)[1]? = some (.int .i64 (x.mn : Int)) := rfl
theorem ndc_kd (x : Nd) {k : Nat} (h : k < 16) : (ndc x)[2 + k]? = some (.int .i64 (x.kd k : Int)) := by
  unfold ndc
  rw [List.getElem?_append_left (by simp; omega), List.getElem?_append_right (by simp)]
  simp [h]
theorem ndc_wd (x : Nd) {k : Nat} (h : k < 8) : (ndc x)[18 + k]? = some (.int .u64 (x.wd k : Int)) := by
  unfold ndc
  rw [List.getElem?_append_right (by simp)]
  simp [h]
/-- a function turned at a place -/
def upd (f : Nat → Nat) (k v : Nat) : Nat → Nat := fun j => if j = k then v else f j
theorem map_upd (g : Nat → Value) (h : Nat → Value) (n k : Nat) (hne : ∀ j, j < n → j ≠ k → h j = g j) : ((List.range n).map g).set k (h k) = (List.range n).map h := by
  refine List.ext_getElem (by simp) fun j h1 h2 => ?_
  rw [List.getElem_set]
  by_cases e : k = j
  · subst e; simp
  · rw [if_neg e]
    simp only [List.getElem_map, List.getElem_range]
    exact (hne j (by simpa using h2) (fun h => e h.symm)).symm
theorem ndc_setLv (x : Nd) (l : Int) : (ndc x).set 0 (.int .i64 l) = ndc { x with lv := l } := rfl
theorem ndc_setMn (x : Nd) (m : Nat) : (ndc x).set 1 (.int .i64 (m : Int)) = ndc { x with mn := m } := rfl
theorem ndc_setKd (x : Nd) {k : Nat} (h : k < 16) (v : Nat) : (ndc x).set (2 + k) (.int .i64 (v : Int)) = ndc { x with kd := upd x.kd k v } := by
  unfold ndc
  rw [List.set_append_left _ _ (by simp; omega), List.set_append_right _ _ (by simp)]
  have := map_upd (fun j => .int .i64 (x.kd j : Int)) (fun j => .int .i64 (upd x.kd k v j : Int)) 16 k (fun j _ hj => by unfold upd; rw [if_neg hj])
  unfold upd at this
  rw [if_pos rfl] at this
  simp only [List.length_cons, List.length_nil, Nat.add_sub_cancel_left]
  rw [this]
  rfl
theorem ndc_setWd (x : Nd) (k v : Nat) : (ndc x).set (18 + k) (.int .u64 (v : Int)) = ndc { x with wd := upd x.wd k v } := by
  unfold ndc
  rw [List.set_append_right _ _ (by simp)]
  have := map_upd (fun j => .int .u64 (x.wd j : Int)) (fun j => .int .u64 (upd x.wd k v j : Int)) 8 k (fun j _ hj => by unfold upd; rw [if_neg hj])
  unfold upd at this
  rw [if_pos rfl] at this
  simp only [List.length_append, List.length_cons, List.length_nil, List.length_map, List.length_range, Nat.reduceAdd, Nat.add_sub_cancel_left]
  rw [this]
  rfl
theorem ndCells_length : ∀ st : List Nd, (ndCells st).length = 26 * st.length
  | [] => rfl
  | x :: l => by
    have := ndCells_length l
    unfold ndCells at this ⊢
    rw [List.flatMap_cons, List.length_append, ndc_length, this, List.length_cons]
    omega
theorem ndCells_get (d : Nd) : ∀ (st : List Nd) (i j : Nat) (_ : i < st.length) (_ : j < 26), (ndCells st)[i * 26 + j]? = (ndc (st.getD i d))[j]?
  | [], i, _, h, _ => by simp at h
  | x :: l, 0, j, _, hj => by
    unfold ndCells
    rw [List.flatMap_cons, Nat.zero_mul, Nat.zero_add, List.getElem?_append_left (by rw [ndc_length]; exact hj)]
    rfl
  | x :: l, i + 1, j, h, hj => by
    have := ndCells_get d l i j (by simpa using h) hj
    unfold ndCells at this ⊢
    rw [List.flatMap_cons, List.getElem?_append_right (by rw [ndc_length]; omega), show (i + 1) * 26 + j - (ndc x).length = i * 26 + j by rw [ndc_length]; omega, this]
    rfl
theorem ndCells_set (d : Nd) : ∀ (st : List Nd) (i j : Nat) (v : Value) (y : Nd) (_ : i < st.length) (_ : j < 26) (_ : (ndc (st.getD i d)).set j v = ndc y), (ndCells st).set (i * 26 + j) v = ndCells (st.set i y)
  | [], i, _, _, _, h, _, _ => by simp at h
  | x :: l, 0, j, v, y, _, hj, he => by
    unfold ndCells
    rw [List.flatMap_cons, List.set_cons_zero, List.flatMap_cons, Nat.zero_mul, Nat.zero_add, List.set_append_left _ _ (by rw [ndc_length]; exact hj)]
    have he' : (ndc x).set j v = ndc y := he
    rw [he']
  | x :: l, i + 1, j, v, y, h, hj, he => by
    have := ndCells_set d l i j v y (by simpa using h) hj (by simpa using he)
    unfold ndCells at this ⊢
    rw [List.flatMap_cons, List.set_cons_succ, List.flatMap_cons, List.set_append_right _ _ (by rw [ndc_length]; omega), show (i + 1) * 26 + j - (ndc x).length = i * 26 + j by rw [ndc_length]; omega, this]
end Go.Proofs.YtfmclbacoffdaaaDoor
