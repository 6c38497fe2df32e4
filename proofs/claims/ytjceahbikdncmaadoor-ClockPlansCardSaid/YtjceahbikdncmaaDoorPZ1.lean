/- Slices of structs whose fields are one cell each, as a row hands them. | General lemmas: worlds behind calls that only make memory; slices that read as lists; one plain statement each. | General lemmas for seats without bits: worlds behind calls, results, rows of the call's own. | Clocks: alarms and rings in memory; how a row hands them. | Clocks: the rings of alarms, as numbers. No program. | Plain facts on words and bits: no program. -/
import Derived.Test.YtjceahbikdncmaaDoorProg
import Derived.WalkKit
import Derived.OpenShut
import Derived.Lib.SmallJoins
import Derived.Deep.Slices
import Derived.Deep.Fields
import Derived.ChangeSame
import Derived.WalkSpells
import Derived.WalkLawsBesides
import Derived.Deep.QuietTactic
import Derived.BigQuiet
import Derived.Lib.Hide
import Derived.Lib.QuietBelow
import Derived.Deep.AppendLies
import Derived.OneCell
import Derived.PlainAid
namespace Go.Proofs.YtjceahbikdncmaaDoor
open Go.ChangeShapes Go.WideShapes Go.ChangeAt Go.RowKit Go.Joins Go.Deep
section
variable {H : Type} {enc : TypeId × Value → H} {P : Program} {w : World} {base : Nat} {spare : Nat → Bool} {held : Bool}
theorem open_slice_fields {t e : TypeId} {fs : Array Field} {fuel : Nat} {cs : List Value} {x : DataW H × List MemPlace} (ht : P.underlying t = some (.slice e)) (he : P.underlying e = some (.struct fs))
    (hone : oneCellFields P fs = true) (hC : P.cellsOf e = fs.size) (h : DataW.trod enc P w base spare held fuel t cs = some x) :
    (cs = [.slice none 0 0] ∧ x = (.nil, [])) ∨
    ∃ (a : Addr) (len cap m : Nat) (D : Nat → DataW H) (Pl : Nat → List MemPlace), cs = [.slice (some a) len cap] ∧ base ≤ a.block ∧ len ≤ cap ∧ cap ≤ maxLen ∧ m = (if spare a.block then cap else len) ∧
      x = (.slice ((List.range len).map D) ((List.range (m - len)).map fun j => D (len + j)), MemPlace.row a (m * fs.size) ++ (List.range m).flatMap Pl) ∧
      ∀ i, i < m → ∃ (ys : List (DataW H × List MemPlace)) (n : Nat), D i = .agg (ys.map (·.1)) ∧ Pl i = ys.flatMap (·.2) ∧ ys.length = fs.size ∧
        ∀ (j : Nat) (f : Field), fs[j]? = some f → ∃ (v : Value) (y : DataW H × List MemPlace), w.cell? (a.add (i * fs.size + j)) = some v ∧ ys[j]? = some y ∧ DataW.trod enc P w base spare held n f.type [v] = some y := by
  rcases open_slice ht h with h0 | ⟨a, len, cap, m, n, D, Pl, hcs, hb, hl, hm, hmm, hx, hi⟩
  · exact .inl h0
  · refine .inr ⟨a, len, cap, m, D, Pl, hcs, hb, hl, hm, hmm, by rw [hC] at hx; exact hx, fun i him => ?_⟩
    obtain ⟨cs', hc, ht'⟩ := hi i him
    rw [hC] at hc
    obtain ⟨ys, n', hn', hy, hlen, hyl, hf⟩ := DataW.trod_struct he ht'
    obtain ⟨_, hcl, hat⟩ := World.cells?_some hc
    simp only [Prod.mk.injEq] at hy
    refine ⟨ys, n', hy.1, hy.2, hyl, fun j f hj => ?_⟩
    obtain ⟨ho, hk⟩ := hone_of hone j f hj
    have hjl : j < fs.size := (Array.getElem?_eq_some_iff.1 hj).1
    have hcell := hat j hjl
    have hv : cs'[j]? = some (cs'[j]'(by omega)) := List.getElem?_eq_getElem (by omega)
    have h1 := hf j f hj
    rw [ho, hk] at h1
    have hone' : (cs'.drop j).take 1 = [cs'[j]'(by omega)] := by
      rw [List.drop_eq_getElem_cons (by omega)]
      rfl
    rw [hone'] at h1
    have hys : ys[j]? = some (ys[j]'(by omega)) := List.getElem?_eq_getElem (by omega)
    refine ⟨_, _, ?_, hys, h1.trans hys⟩
    rw [← Go.Deep.add_add, hcell, hv]
/-- the address of such a slice is plain -/
theorem plain_addr {a : Addr} {v : Value} {w : World} (h : w.cell? a = some v) : ∃ b o, a = ⟨b, o, none⟩ := by
  obtain ⟨b, o, spot⟩ := a
  have hs : spot = none := World.cell?_spot h
  subst hs
  exact ⟨b, o, rfl⟩
theorem choose4 {α : Type} [Inhabited α] {n : Nat} {p : Nat → α → Prop} (h : ∀ i, i < n → ∃ x, p i x) : ∃ f : Nat → α, ∀ i, i < n → p i (f i) := by
  classical
  refine ⟨fun i => if hi : i < n then Classical.choose (h i hi) else default, fun i hi => ?_⟩
  dsimp only
  rw [dif_pos hi]
  exact Classical.choose_spec (h i hi)
end
end Go.Proofs.YtjceahbikdncmaaDoor

namespace Go.Proofs.YtjceahbikdncmaaDoor
open Go.RowKit Go.Sort

/-- A cell of a block that is not old: kept behind a name. -/
def farCell (d : Nat) (os : Array Obj) (W : World) (a : Addr) : Option Value := (grow (redrawn W d) os).cell? a
def farFrozen (d : Nat) (os : Array Obj) (W : World) (a : Addr) : Bool := (grow (redrawn W d) os).frozen? a
theorem below_grow (W : World) (d : Nat) (os : Array Obj) : Below W.heap.size W (grow (redrawn W d) os) := below_regrown W d os
theorem cell_grow (W : World) (d : Nat) (os : Array Obj) (b o : Nat) (s : Option Nat) :
    (grow (redrawn W d) os).cell? ⟨b, o, s⟩ = if b < W.heap.size then W.cell? ⟨b, o, s⟩ else farCell d os W ⟨b, o, s⟩ := by
  split
  · rename_i h; exact (below_regrown W d os).cell (p := ⟨b, o, s⟩) h
  · rfl
theorem frozen_grow (W : World) (d : Nat) (os : Array Obj) (b o : Nat) (s : Option Nat) :
    (grow (redrawn W d) os).frozen? ⟨b, o, s⟩ = if b < W.heap.size then W.frozen? ⟨b, o, s⟩ else farFrozen d os W ⟨b, o, s⟩ := by
  split
  · rename_i h; exact (below_regrown W d os).frozen (p := ⟨b, o, s⟩) h
  · rfl
theorem size_grow (W : World) (d : Nat) (os : Array Obj) : (grow (redrawn W d) os).heap.size = W.heap.size + os.size := by
  simp [grow, redrawn]
attribute [local go_sem] cell_grow frozen_grow size_grow

theorem Below.size_le {B : Nat} {w w' : World} (h : Below B w w') : w.heap.size ≤ w'.heap.size := h.size
theorem below_tr {a b c : World} (h : Below a.heap.size a b) (k : Below b.heap.size b c) : Below a.heap.size a c := h.trans (k.mono h.size)

/-- a post that speaks of worlds that only grew -/
theorem Calls.grown_of {P : Program} {f : FuncId} {args : Array Value} {w W : World} {v : Value} (hW : Below w.heap.size w W)
    (h : Calls P f args W fun e w' => e = .returned v ∧ Below W.heap.size W w') : Calls P f args W fun e w' => e = .returned v ∧ Below w.heap.size w w' :=
  h.mono fun _ _ ⟨he, hb⟩ => ⟨he, below_tr hW hb⟩

/-- A slice of words. -/
structure SlK (k : IntKind) (w : World) (a : Option Addr) (len : Nat) (ws : List Nat) : Prop where
  length : ws.length = len
  cells : len = 0 ∨ ∃ b off, a = some ⟨b, off, none⟩ ∧ ∀ j, j < len → w.cell? ⟨b, off + j, none⟩ = some (.int k (ws.getD j 0 : Nat))

theorem SlK.below {k : IntKind} {w w' : World} {a : Option Addr} {len : Nat} {ws : List Nat} (h : SlK k w a len ws) (hb : Below w.heap.size w w') : SlK k w' a len ws := by
  refine ⟨h.length, ?_⟩
  rcases h.cells with h0 | ⟨b, off, ha, hc⟩
  · exact .inl h0
  · refine .inr ⟨b, off, ha, fun j hj => ?_⟩
    have := hc j hj
    rw [hb.cell (p := ⟨b, off + j, none⟩) (World.block_lt_of_cell? _ _ this)]; exact this
theorem SlK.alloc {k : IntKind} {w : World} {a : Option Addr} {len : Nat} {ws : List Nat} (h : SlK k w a len ws) (o : Obj) : SlK k (w.alloc o) a len ws :=
  h.below ((Below.refl _ _).alloc (Nat.le_refl _) o)
theorem SlK.grow {k : IntKind} {w : World} {a : Option Addr} {len : Nat} {ws : List Nat} (h : SlK k w a len ws) (d : Nat) (os : Array Obj) : SlK k (grow (redrawn w d) os) a len ws :=
  h.below (below_regrown w d os)

end Go.Proofs.YtjceahbikdncmaaDoor

namespace Go.Proofs.YtjceahbikdncmaaDoor
open Go.RowKit Go.Sort Go.Joins
attribute [local go_sem] cell_grow frozen_grow size_grow

theorem below_box0 (w : World) (o : Obj) : Below w.heap.size w (w.alloc o) := (Below.refl _ _).alloc (Nat.le_refl _) o
theorem below_draw (w : World) (k : Nat) : Below w.heap.size w (w.drewN k) := ⟨rfl, rfl, rfl, Nat.le_refl _, fun _ _ => rfl⟩
theorem ret_i64 {a b : Int} (h : a = b) : Ending.returned (.int .i64 a) = .returned (.int .i64 b) := by rw [h]
theorem ret_bool {a b : Bool} (h : a = b) : Ending.returned (.bool a) = .returned (.bool b) := by rw [h]
theorem ret_two {a b c d : Int} {k l : IntKind} (h : a = b) (h2 : c = d) : Ending.returned (.tuple #[.int k a, .int l c]) = .returned (.tuple #[.int k b, .int l d]) := by rw [h, h2]
theorem ret_boolE {a b : Bool} {c d : Int} (h : a = b) (h2 : c = d) : Ending.returned (.tuple #[.bool a, .int .i64 c]) = .returned (.tuple #[.bool b, .int .i64 d]) := by rw [h, h2]
theorem bne0_true {x : Int} (h : x ≠ 0) : (x != 0) = true := by simpa using h
theorem keepN {W nxt : World} {C : World → Prop} (hC : Hid (∀ w', Below W.heap.size W w' → C w')) (h : Below W.heap.size W nxt) : Below W.heap.size W nxt ∧ C nxt := ⟨h, hC.out _ h⟩
theorem bel_alloc {W cur : World} {C : Prop} (h : Below W.heap.size W cur ∧ C) (o : Obj) : Below W.heap.size W (cur.alloc o) := h.1.alloc h.1.size o
theorem bel_call {W cur nxt : World} {C : Prop} (h : Below W.heap.size W cur ∧ C) (hb : Below cur.heap.size cur nxt) : Below W.heap.size W nxt := below_tr h.1 hb
theorem own_slice {w : World} {base len size : Nat} {e : TypeId} {v : Value} {xs : List Value} (h : w.ownsRow base e size v len xs) : ∃ a cap, v = .slice a len cap := by
  rcases ownsRow_forms h with ⟨rfl, rfl⟩ | ⟨g, cap, rfl⟩
  · exact ⟨_, _, rfl⟩
  · exact ⟨_, _, rfl⟩
theorem blk_lt {w : World} {k : Nat} {o : Obj} (h : w.heap[k]? = some o) : k < w.heap.size := by
  rcases Nat.lt_or_ge k w.heap.size with h' | h'
  · exact h'
  · rw [Array.getElem?_eq_none h'] at h; cases h
theorem own_below {w w' : World} {base : Nat} {e : TypeId} {size : Nat} {v : Value} {n : Nat} {xs : List Value} (h : w.ownsRow base e size v n xs) (hb : Below w.heap.size w w') : w'.ownsRow base e size v n xs := by
  obtain ⟨h1, h2⟩ := h
  refine ⟨h1, ?_⟩
  rcases h2 with h2 | ⟨g, cap, cur, hv, hg, hh, r⟩
  · exact Or.inl h2
  · exact Or.inr ⟨g, cap, cur, hv, hg, by rw [hb.block _ (blk_lt hh)]; exact hh, r⟩
theorem own_ne {w : World} {base size : Nat} {e t : TypeId} {v : Value} {n : Nat} {xs : List Value} {k : Nat} {cs : Array Value} {fz : Nat × Nat} (h : w.ownsRow base e size v n xs) (hk : w.heap[k]? = some (.cells cs t fz)) (hne : e ≠ t) : v.ownBlock ≠ some k := by
  rcases h.2 with ⟨h2, _⟩ | ⟨g, cap, cur, hv, hg, hh, _⟩
  · rw [h2]; intro e; cases e
  · rw [hv]
    intro e'
    have : g = k := by simpa [Value.ownBlock] using e'
    subst this
    rw [hh] at hk
    simp only [Option.some.injEq, Obj.cells.injEq] at hk
    exact hne hk.2.1
theorem setCell_block {w : World} {g i : Nat} {cs : Array Value} {t : TypeId} (h : w.heap[g]? = some (.cells cs t (0, 0))) (v : Value) : (w.setCell ⟨g, i, none⟩ v).heap[g]? = some (.cells (cs.setIfInBounds i v) t (0, 0)) := by
  have := block_setCell h (i := i) v; exact this
end Go.Proofs.YtjceahbikdncmaaDoor

namespace Go.Proofs.YtjceahbikdncmaaDoor
open Go.ChangeShapes Go.WideShapes Go.ChangeAt Go.RowKit Go.Joins Go.Deep

abbrev Al := ByteArray × Int × Int
abbrev al0 : Al := (⟨#[]⟩, 0, 0)
abbrev aV (x : Al) : Value := .agg #[.string x.1, .int .i64 x.2.1, .int .i64 x.2.2]
/-- a slice that reads as alarms -/
def SlA (w : World) (a : Option Addr) (n : Nat) (R : Nat → Al) : Prop := n = 0 ∨ ∃ b o, a = some ⟨b, o, none⟩ ∧ ∀ j, j < n → w.cell? ⟨b, o + j * 3, none⟩ = some (.string (R j).1) ∧ w.cell? ⟨b, o + j * 3 + 1, none⟩ = some (.int .i64 (R j).2.1) ∧ w.cell? ⟨b, o + j * 3 + 2, none⟩ = some (.int .i64 (R j).2.2)
theorem SlA.below {w w' : World} {a : Option Addr} {n : Nat} {R : Nat → Al} (h : SlA w a n R) (hb : Below w.heap.size w w') : SlA w' a n R := by
  rcases h with h | ⟨b, o, ha, hc⟩
  · exact .inl h
  · refine .inr ⟨b, o, ha, fun j hj => ?_⟩
    obtain ⟨h0, h1, h2⟩ := hc j hj
    have hl := World.block_lt_of_cell? _ _ h0
    dsimp only at hl
    exact ⟨(hb.cell (p := ⟨b, o + j * 3, none⟩) hl).trans h0, (hb.cell (p := ⟨b, o + j * 3 + 1, none⟩) hl).trans h1, (hb.cell (p := ⟨b, o + j * 3 + 2, none⟩) hl).trans h2⟩
theorem SlA.at_ {w : World} {a : Option Addr} {n : Nat} {R : Nat → Al} (h : SlA w a n R) {j : Nat} (hj : j < n) : ∃ b o, a = some ⟨b, o, none⟩ ∧ w.cell? ⟨b, o + j * 3, none⟩ = some (.string (R j).1) ∧ w.cell? ⟨b, o + j * 3 + 1, none⟩ = some (.int .i64 (R j).2.1) ∧ w.cell? ⟨b, o + j * 3 + 2, none⟩ = some (.int .i64 (R j).2.2) := by
  obtain ⟨b, o, ha, hc⟩ := h.resolve_left (by omega)
  exact ⟨b, o, ha, hc j hj⟩
theorem SlA.congr {w : World} {a : Option Addr} {n : Nat} {R Q : Nat → Al} (h : SlA w a n R) (hr : ∀ j, j < n → R j = Q j) : SlA w a n Q := by
  rcases h with h | ⟨b, o, ha, hc⟩
  · exact .inl h
  · exact .inr ⟨b, o, ha, fun j hj => by rw [← hr j hj]; exact hc j hj⟩
/-- rings -/
abbrev Rn := ByteArray × Int
abbrev gV (x : Rn) : Value := .agg #[.string x.1, .int .i64 x.2]
def rn0 : Rn := (⟨#[]⟩, 0)
/-- a slice that reads as rings -/
def SlG (w : World) (a : Option Addr) (n : Nat) (G : Nat → Rn) : Prop := n = 0 ∨ ∃ b o, a = some ⟨b, o, none⟩ ∧ ∀ j, j < n → w.cell? ⟨b, o + j * 2, none⟩ = some (.string (G j).1) ∧ w.cell? ⟨b, o + j * 2 + 1, none⟩ = some (.int .i64 (G j).2)
theorem SlG.below {w w' : World} {a : Option Addr} {n : Nat} {G : Nat → Rn} (h : SlG w a n G) (hb : Below w.heap.size w w') : SlG w' a n G := by
  rcases h with h | ⟨b, o, ha, hc⟩
  · exact .inl h
  · refine .inr ⟨b, o, ha, fun j hj => ?_⟩
    obtain ⟨h0, h1⟩ := hc j hj
    have hl := World.block_lt_of_cell? _ _ h0
    dsimp only at hl
    exact ⟨(hb.cell (p := ⟨b, o + j * 2, none⟩) hl).trans h0, (hb.cell (p := ⟨b, o + j * 2 + 1, none⟩) hl).trans h1⟩
theorem SlG.at_ {w : World} {a : Option Addr} {n : Nat} {G : Nat → Rn} (h : SlG w a n G) {j : Nat} (hj : j < n) : ∃ b o, a = some ⟨b, o, none⟩ ∧ w.cell? ⟨b, o + j * 2, none⟩ = some (.string (G j).1) ∧ w.cell? ⟨b, o + j * 2 + 1, none⟩ = some (.int .i64 (G j).2) := by
  obtain ⟨b, o, ha, hc⟩ := h.resolve_left (by omega)
  exact ⟨b, o, ha, hc j hj⟩
theorem SlG.congr {w : World} {a : Option Addr} {n : Nat} {R Q : Nat → Rn} (h : SlG w a n R) (hr : ∀ j, j < n → R j = Q j) : SlG w a n Q := by
  rcases h with h | ⟨b, o, ha, hc⟩
  · exact .inl h
  · exact .inr ⟨b, o, ha, fun j hj => by rw [← hr j hj]; exact hc j hj⟩
/-- alarms as cells -/
def alc (L : List Al) : List Value := L.flatMap fun x => [.string x.1, .int .i64 x.2.1, .int .i64 x.2.2]
theorem alc_snoc (L : List Al) (x : Al) : alc (L ++ [x]) = alc L ++ [.string x.1, .int .i64 x.2.1, .int .i64 x.2.2] := by simp [alc]
theorem alc_length (L : List Al) : (alc L).length = L.length * 3 := by
  induction L with
  | nil => rfl
  | cons x L ih =>
    have e : alc (x :: L) = [.string x.1, .int .i64 x.2.1, .int .i64 x.2.2] ++ alc L := rfl
    rw [e, List.length_append, ih]; simp; omega
theorem alc_get (L : List Al) (k : Nat) (h : k < L.length) : (alc L)[k * 3]? = some (.string (L.getD k al0).1) ∧ (alc L)[k * 3 + 1]? = some (.int .i64 (L.getD k al0).2.1) ∧ (alc L)[k * 3 + 2]? = some (.int .i64 (L.getD k al0).2.2) := by
  induction L generalizing k with
  | nil => simp at h
  | cons x L ih =>
    cases k with
    | zero => simp [alc]
    | succ k =>
      have := ih k (by simpa using h)
      simp only [alc, List.flatMap_cons] at this ⊢
      rw [List.getElem?_append_right (by simp; omega), List.getElem?_append_right (by simp; omega), List.getElem?_append_right (by simp; omega)]
      simpa [show (k + 1) * 3 - 3 = k * 3 by omega, show (k + 1) * 3 + 1 - 3 = k * 3 + 1 by omega, show (k + 1) * 3 + 2 - 3 = k * 3 + 2 by omega] using this
theorem alc_one (L : List Al) : ∀ u ∈ alc L, u.oneCell' = true := by
  intro u hu
  obtain ⟨x, _, hx⟩ := List.mem_flatMap.1 hu
  simp at hx
  rcases hx with rfl | rfl | rfl <;> rfl
theorem info_alarm : (Tryd.prog.info? 47).map (fun i => (i.zero, i.size, i.bytes)) = some (some (.agg #[.string ⟨#[]⟩, .int .i64 0, .int .i64 0]), 3, 32) := by kernel_rfl
theorem SlA.of_own {w : World} {base len cap : Nat} {e : TypeId} {a : Option Addr} {L : List Al} (h : w.ownsRow base e 3 (.slice a len cap) L.length (alc L)) : SlA w a L.length (fun j => L.getD j al0) := by
  by_cases h0 : L.length = 0
  · exact .inl h0
  · obtain ⟨g, cap', hv⟩ := ownsRow_form h (by omega)
    cases hv
    refine .inr ⟨g, 0, rfl, fun j hj => ?_⟩
    obtain ⟨e0, e1, e2⟩ := alc_get L j hj
    have c0 := h.cellAt (j * 3) (by omega)
    have c1 := h.cellAt (j * 3 + 1) (by omega)
    have c2 := h.cellAt (j * 3 + 2) (by omega)
    rw [e0] at c0
    rw [e1] at c1
    rw [e2] at c2
    rw [Nat.zero_add]
    exact ⟨c0, c1, c2⟩
/-- rings as cells -/
def rgc (L : List Rn) : List Value := L.flatMap fun x => [.string x.1, .int .i64 x.2]
theorem rgc_snoc (L : List Rn) (x : Rn) : rgc (L ++ [x]) = rgc L ++ [.string x.1, .int .i64 x.2] := by simp [rgc]
theorem rgc_length (L : List Rn) : (rgc L).length = L.length * 2 := by
  induction L with
  | nil => rfl
  | cons x L ih =>
    have e : rgc (x :: L) = [.string x.1, .int .i64 x.2] ++ rgc L := rfl
    rw [e, List.length_append, ih]; simp; omega
theorem rgc_get (L : List Rn) (k : Nat) (h : k < L.length) : (rgc L)[k * 2]? = some (.string (L.getD k rn0).1) ∧ (rgc L)[k * 2 + 1]? = some (.int .i64 (L.getD k rn0).2) := by
  induction L generalizing k with
  | nil => simp at h
  | cons x L ih =>
    cases k with
    | zero => simp [rgc]
    | succ k =>
      have := ih k (by simpa using h)
      simp only [rgc, List.flatMap_cons] at this ⊢
      rw [List.getElem?_append_right (by simp; omega), List.getElem?_append_right (by simp; omega)]
      simpa [show (k + 1) * 2 - 2 = k * 2 by omega, show (k + 1) * 2 + 1 - 2 = k * 2 + 1 by omega] using this
theorem rgc_one (L : List Rn) : ∀ u ∈ rgc L, u.oneCell' = true := by
  intro u hu
  obtain ⟨x, _, hx⟩ := List.mem_flatMap.1 hu
  simp at hx
  rcases hx with rfl | rfl <;> rfl
theorem info_ring : (Tryd.prog.info? 45).map (fun i => (i.zero, i.size, i.bytes)) = some (some (.agg #[.string ⟨#[]⟩, .int .i64 0]), 2, 24) := by kernel_rfl
theorem SlG.of_own {w : World} {base len cap : Nat} {e : TypeId} {a : Option Addr} {L : List Rn} (h : w.ownsRow base e 2 (.slice a len cap) L.length (rgc L)) : SlG w a L.length (fun j => L.getD j rn0) := by
  by_cases h0 : L.length = 0
  · exact .inl h0
  · obtain ⟨g, cap', hv⟩ := ownsRow_form h (by omega)
    cases hv
    refine .inr ⟨g, 0, rfl, fun j hj => ?_⟩
    obtain ⟨e0, e1⟩ := rgc_get L j hj
    have c0 := h.cellAt (j * 2) (by omega)
    have c1 := h.cellAt (j * 2 + 1) (by omega)
    rw [e0] at c0
    rw [e1] at c1
    rw [Nat.zero_add]
    exact ⟨c0, c1⟩
/-- the bounds of an int -/
def I64r (x : Int) : Prop := -9223372036854775808 ≤ x ∧ x ≤ 9223372036854775807
def AlB (x : Al) : Prop := x.1.size ≤ maxLen ∧ I64r x.2.1 ∧ I64r x.2.2
section
variable {H : Type} {enc : TypeId × Value → H} {W : World} {base : Nat}
instance : Inhabited Al := ⟨al0⟩
set_option maxRecDepth 100000 in
theorem open_alarms {fuel : Nat} {v : Value} {x : DataW H × List MemPlace} (hf : DataW.trod enc Tryd.prog W base (fun _ => true) true fuel 22 [v] = some x) :
    ∃ (a : Option Addr) (n cap : Nat) (R : Nat → Al), v = .slice a n cap ∧ SlA W a n R ∧ n ≤ 9223372036854775807 ∧ ∀ j, j < n → AlB (R j) := by
  rcases open_slice_fields Tryd.underlying22 Tryd.underlying47 (by kernel_rfl) (by kernel_rfl) hf with ⟨h, _⟩ | ⟨A, len, cap, mm, D, Pl, h, _, hl, hm, hmm, _, hi⟩
  · cases h
    exact ⟨none, 0, 0, fun _ => al0, rfl, .inl rfl, by decide, fun j hj => by omega⟩
  · cases h
    have hml : maxLen ≤ 9223372036854775807 := by decide
    simp only [↓reduceIte] at hmm
    have key : ∀ i, i < cap → ∃ x : Al, W.cell? (A.add (i * 3)) = some (.string x.1) ∧ W.cell? (A.add (i * 3 + 1)) = some (.int .i64 x.2.1) ∧ W.cell? (A.add (i * 3 + 2)) = some (.int .i64 x.2.2) ∧ AlB x := by
      intro i hic
      obtain ⟨ys, n', _, _, _, hf⟩ := hi i (by omega)
      obtain ⟨v0, y0, g0, _, t0⟩ := hf 0 _ rfl
      obtain ⟨v1, y1, g1, _, t1⟩ := hf 1 _ rfl
      obtain ⟨v2, y2, g2, _, t2⟩ := hf 2 _ rfl
      obtain ⟨x0, e0, _, w0⟩ := DataW.trod_string Tryd.underlying9 t0
      obtain ⟨x1, e1, _, w1⟩ := DataW.trod_int Tryd.underlying2 t1
      obtain ⟨x2, e2, _, w2⟩ := DataW.trod_int Tryd.underlying2 t2
      cases e0; cases e1; cases e2
      exact ⟨(x0, x1, x2), g0, g1, g2, w0, bounds_i64 w1, bounds_i64 w2⟩
    obtain ⟨R, hR⟩ := choose4 key
    refine ⟨some A, len, cap, R, rfl, ?_, by omega, fun j hj => (hR j (by omega)).2.2.2⟩
    by_cases h0 : len = 0
    · exact .inl h0
    · obtain ⟨b, o, rfl⟩ := plain_addr (hR 0 (by omega)).1
      refine .inr ⟨b, o, rfl, fun j hj => ?_⟩
      obtain ⟨e0, e1, e2, _⟩ := hR j (by omega)
      simp only [Go.WideShapes.add_plain] at e0 e1 e2
      exact ⟨e0, e1, e2⟩
end
end Go.Proofs.YtjceahbikdncmaaDoor

namespace Go.Proofs.YtjceahbikdncmaaDoor

/-- the greatest time -/
def MT : Int := 1000000000000
/-- when an alarm (at, every) rings for the c-th time, from 0 on; -1: it does not -/
def pos (a : Int × Int) (c : Nat) : Int := if a.2 = 0 then (if c = 0 then a.1 else -1) else if a.1 + (c : Int) * a.2 ≤ MT then a.1 + (c : Int) * a.2 else -1
structure AlOk (a : Int × Int) : Prop where
  a0 : 0 ≤ a.1
  a1 : a.1 ≤ MT
  e0 : 0 ≤ a.2
  e1 : a.2 ≤ MT
theorem pos_zero {a : Int × Int} (h : AlOk a) : pos a 0 = a.1 := by
  unfold pos
  have := h.a1
  split
  · simp
  · simp; omega
theorem pos_nonneg {a : Int × Int} (h : AlOk a) {c : Nat} (hp : 0 ≤ pos a c) : pos a c = a.1 + (c : Int) * a.2 ∧ pos a c ≤ MT ∧ (a.2 = 0 → c = 0) := by
  have := h.a1
  unfold pos at hp ⊢
  by_cases h1 : a.2 = 0
  · rw [if_pos h1] at hp ⊢
    by_cases h2 : c = 0
    · rw [if_pos h2]; subst h2; exact ⟨by simp, this, fun _ => rfl⟩
    · rw [if_neg h2] at hp; omega
  · rw [if_neg h1] at hp ⊢
    by_cases h2 : a.1 + (c : Int) * a.2 ≤ MT
    · rw [if_pos h2]; exact ⟨rfl, h2, fun e => absurd e h1⟩
    · rw [if_neg h2] at hp; omega
/-- what the program does behind a ring -/
theorem pos_succ {a : Int × Int} (h : AlOk a) {c : Nat} (hp : 0 ≤ pos a c) : pos a (c + 1) = if a.2 = 0 ∨ MT < pos a c + a.2 then -1 else pos a c + a.2 := by
  obtain ⟨e, _, hz⟩ := pos_nonneg h hp
  rw [e]
  have e1 : ((c + 1 : Nat) : Int) * a.2 = (c : Int) * a.2 + a.2 := by rw [show ((c + 1 : Nat) : Int) = (c : Int) + 1 by omega, Int.add_mul, Int.one_mul]
  unfold pos
  by_cases h1 : a.2 = 0
  · rw [if_pos h1, if_neg (by omega), if_pos (.inl h1)]
  · rw [if_neg h1, e1]
    by_cases h2 : MT < a.1 + (c : Int) * a.2 + a.2
    · rw [if_neg (by omega), if_pos (.inr h2)]
    · rw [if_pos (by omega), if_neg (by omega)]; omega
theorem pos_lt {a : Int × Int} (h : AlOk a) {c d : Nat} (hcd : c < d) (hc : 0 ≤ pos a c) (hd : 0 ≤ pos a d) : pos a c < pos a d := by
  obtain ⟨e1, _, _⟩ := pos_nonneg h hc
  obtain ⟨e2, _, z2⟩ := pos_nonneg h hd
  have e0 := h.e0
  have hE : 0 < a.2 := by
    by_cases hz : a.2 = 0
    · have := z2 hz; omega
    · omega
  have := Int.mul_le_mul_of_nonneg_right (show (c : Int) + 1 ≤ (d : Int) by omega) e0
  rw [Int.add_mul, Int.one_mul] at this
  omega
theorem pos_gone {a : Int × Int} (h : AlOk a) {c d : Nat} (hcd : c ≤ d) (hd : 0 ≤ pos a d) : 0 ≤ pos a c := by
  obtain ⟨e2, m2, z2⟩ := pos_nonneg h hd
  have e0 := h.e0
  have a0 := h.a0
  have a1 := h.a1
  have hm := Int.mul_le_mul_of_nonneg_right (show (c : Int) ≤ (d : Int) by omega) e0
  have hn := Int.mul_nonneg (show (0 : Int) ≤ (c : Int) by omega) e0
  unfold pos
  by_cases h1 : a.2 = 0
  · rw [if_pos h1, if_pos (by have := z2 h1; omega)]; exact a0
  · rw [if_neg h1, if_pos (by omega)]; omega

/-- the first one with the least time; -1: there is none -/
def bst (A : Nat → Int) : Nat → Int
  | 0 => -1
  | m + 1 => if 0 ≤ A m ∧ (bst A m < 0 ∨ A m < A (bst A m).toNat) then m else bst A m
theorem bst_spec (A : Nat → Int) : ∀ m, (bst A m = -1 ∧ ∀ i, i < m → A i < 0) ∨ ∃ b : Nat, bst A m = b ∧ b < m ∧ 0 ≤ A b ∧ ∀ i, i < m → 0 ≤ A i → A b < A i ∨ (A b = A i ∧ b ≤ i)
  | 0 => .inl ⟨rfl, fun i hi => by omega⟩
  | m + 1 => by
    simp only [bst]
    rcases bst_spec A m with ⟨e, h⟩ | ⟨b, e, hb, h0, h⟩
    · by_cases hm : 0 ≤ A m
      · rw [if_pos ⟨hm, .inl (by omega)⟩]
        refine .inr ⟨m, rfl, by omega, hm, fun i hi h0 => ?_⟩
        by_cases him : i = m
        · subst him; exact .inr ⟨rfl, Nat.le_refl _⟩
        · have := h i (by omega); omega
      · rw [if_neg (fun hh => hm hh.1)]
        refine .inl ⟨e, fun i hi => ?_⟩
        by_cases him : i = m
        · subst him; omega
        · exact h i (by omega)
    · rw [e, Int.toNat_natCast]
      by_cases hm : 0 ≤ A m ∧ A m < A b
      · rw [if_pos ⟨hm.1, .inr hm.2⟩]
        refine .inr ⟨m, rfl, by omega, hm.1, fun i hi h1 => ?_⟩
        by_cases him : i = m
        · subst him; exact .inr ⟨rfl, Nat.le_refl _⟩
        · have := h i (by omega) h1; omega
      · rw [if_neg (by rintro ⟨h1, h2 | h2⟩; omega; exact hm ⟨h1, h2⟩)]
        refine .inr ⟨b, rfl, by omega, h0, fun i hi h1 => ?_⟩
        by_cases him : i = m
        · subst him
          have : ¬ A i < A b := fun hlt => hm ⟨h1, hlt⟩
          omega
        · exact h i (by omega) h1

/-- rings: time and alarm -/
def rlt (x y : Int × Nat) : Prop := x.1 < y.1 ∨ (x.1 = y.1 ∧ x.2 < y.2)
theorem rlt_irr (x : Int × Nat) : ¬ rlt x x := by unfold rlt; omega
theorem rlt_tr {x y z : Int × Nat} (h : rlt x y) (k : rlt y z) : rlt x z := by unfold rlt at *; omega
theorem sorted_eq : ∀ {L M : List (Int × Nat)}, L.Pairwise rlt → M.Pairwise rlt → (∀ x, x ∈ L ↔ x ∈ M) → L = M
  | [], [], _, _, _ => rfl
  | [], y :: M, _, _, h => by have := (h y).2 (by simp); cases this
  | x :: L, [], _, _, h => by have := (h x).1 (by simp); cases this
  | x :: L, y :: M, h1, h2, h => by
    rw [List.pairwise_cons] at h1 h2
    have e : x = y := by
      rcases List.mem_cons.1 ((h x).1 (by simp)) with e | e
      · exact e
      · rcases List.mem_cons.1 ((h y).2 (by simp)) with e' | e'
        · exact e'.symm
        · exact absurd (rlt_tr (h1.1 y e') (h2.1 x e)) (rlt_irr x)
    subst e
    congr 1
    refine sorted_eq h1.2 h2.2 fun z => ?_
    constructor
    · intro hz
      rcases List.mem_cons.1 ((h z).1 (by simp [hz])) with e | e
      · subst e; exact absurd (h1.1 z hz) (rlt_irr z)
      · exact e
    · intro hz
      rcases List.mem_cons.1 ((h z).2 (by simp [hz])) with e | e
      · subst e; exact absurd (h2.1 z hz) (rlt_irr z)
      · exact e
/-- how many rings in all -/
def sumC (c : Nat → Nat) : Nat → Nat
  | 0 => 0
  | n + 1 => sumC c n + c n
theorem sumC_bump (c : Nat → Nat) (b : Nat) : ∀ n, b < n → sumC (fun i => if i = b then c i + 1 else c i) n = sumC c n + 1
  | 0, h => by omega
  | n + 1, h => by
    simp only [sumC]
    by_cases e : b = n
    · subst e
      have : ∀ m, m ≤ b → sumC (fun i => if i = b then c i + 1 else c i) m = sumC c m := by
        intro m
        induction m with
        | zero => intro _; rfl
        | succ m ih => intro hm; simp only [sumC]; rw [ih (by omega), if_neg (by omega)]
      rw [this b (Nat.le_refl _), if_pos rfl]; omega
    · rw [sumC_bump c b n (by omega), if_neg (fun e' => e e'.symm)]; omega
theorem sumC_zero : ∀ n, sumC (fun _ => 0) n = 0
  | 0 => rfl
  | n + 1 => by simp only [sumC, sumC_zero n]
theorem sumC_congr {c d : Nat → Nat} : ∀ {n}, (∀ i, i < n → c i = d i) → sumC c n = sumC d n
  | 0, _ => rfl
  | n + 1, h => by simp only [sumC]; rw [sumC_congr (fun i hi => h i (by omega)), h n (by omega)]
/-- the rings so far: alarm i has rung c i times -/
structure RgAt (n : Nat) (al : Nat → Int × Int) (u : Int) (c : Nat → Nat) (L : List (Int × Nat)) : Prop where
  sorted : L.Pairwise rlt
  mem : ∀ x : Int × Nat, x ∈ L ↔ x.2 < n ∧ ∃ j, j < c x.2 ∧ x.1 = pos (al x.2) j
  good : ∀ i, i < n → ∀ j, j < c i → 0 ≤ pos (al i) j
  le : ∀ x ∈ L, x.1 ≤ u
  last : ∀ x ∈ L, ∀ i, i < n → 0 ≤ pos (al i) (c i) → rlt x (pos (al i) (c i), i)
  len : L.length = sumC c n
theorem RgAt.start (n : Nat) (al : Nat → Int × Int) (u : Int) : RgAt n al u (fun _ => 0) [] :=
  ⟨List.Pairwise.nil, fun x => ⟨fun h => by (cases h), fun ⟨_, j, hj, _⟩ => by omega⟩, fun i _ j hj => by omega, fun x h => by (cases h), fun x h => by (cases h), (sumC_zero n).symm⟩
theorem RgAt.step {n : Nat} {al : Nat → Int × Int} {u : Int} {c : Nat → Nat} {L : List (Int × Nat)} (h : RgAt n al u c L) (hal : ∀ i, i < n → AlOk (al i)) {b : Nat} (hb : bst (fun i => pos (al i) (c i)) n = b) (hu : pos (al b) (c b) ≤ u) :
    RgAt n al u (fun i => if i = b then c i + 1 else c i) (L ++ [(pos (al b) (c b), b)]) := by
  rcases bst_spec (fun i => pos (al i) (c i)) n with ⟨e, _⟩ | ⟨b', e, hbn, h0, hmin⟩
  · rw [e] at hb; omega
  · obtain rfl : b' = b := by omega
    try dsimp only at h0 hmin
    have hnew : ∀ i, i < n → 0 ≤ pos (al i) (if i = b' then c i + 1 else c i) → rlt (pos (al b') (c b'), b') (pos (al i) (if i = b' then c i + 1 else c i), i) := by
      intro i hi hp
      by_cases e : i = b'
      · subst e
        rw [if_pos rfl] at hp ⊢
        exact .inl (pos_lt (hal i hi) (Nat.lt_succ_self _) h0 hp)
      · rw [if_neg e] at hp ⊢
        rcases hmin i hi hp with h1 | ⟨h1, h2⟩
        · exact .inl h1
        · exact .inr ⟨h1, by dsimp only; omega⟩
    refine ⟨?_, fun x => ?_, fun i hi j hj => ?_, fun x hx => ?_, fun x hx i hi hp => ?_, ?_⟩
    · rw [List.pairwise_append]
      refine ⟨h.sorted, List.pairwise_singleton _ _, fun x hx y hy => ?_⟩
      rw [List.mem_singleton] at hy
      subst hy
      exact h.last x hx b' hbn h0
    · rw [List.mem_append, List.mem_singleton, h.mem]
      constructor
      · rintro (⟨h1, j, h2, h3⟩ | rfl)
        · exact ⟨h1, j, by by_cases e : x.2 = b' <;> simp [e] <;> (try rw [e] at h2) <;> omega, h3⟩
        · exact ⟨hbn, c b', by simp, rfl⟩
      · rintro ⟨h1, j, h2, h3⟩
        by_cases e : x.2 = b'
        · rw [if_pos e] at h2
          by_cases hj : j = c x.2
          · right
            subst hj
            rw [e] at h3
            exact Prod.ext h3 e
          · exact .inl ⟨h1, j, by omega, h3⟩
        · rw [if_neg e] at h2
          exact .inl ⟨h1, j, h2, h3⟩
    · by_cases e : i = b'
      · rw [if_pos e] at hj
        subst e
        by_cases hj2 : j = c i
        · subst hj2; exact h0
        · exact h.good i hi j (by omega)
      · rw [if_neg e] at hj
        exact h.good i hi j hj
    · rw [List.mem_append, List.mem_singleton] at hx
      rcases hx with hx | rfl
      · exact h.le x hx
      · exact hu
    · rw [List.mem_append, List.mem_singleton] at hx
      rcases hx with hx | rfl
      · exact rlt_tr (h.last x hx b' hbn h0) (hnew i hi hp)
      · exact hnew i hi hp
    · rw [List.length_append, h.len, sumC_bump c b' n hbn]; rfl
/-- all rings of a plan up to a time -/
def Rg (n : Nat) (al : Nat → Int × Int) (u : Int) (x : Int × Nat) : Prop := x.2 < n ∧ ∃ j, x.1 = pos (al x.2) j ∧ 0 ≤ x.1 ∧ x.1 ≤ u
theorem RgAt.stop {n : Nat} {al : Nat → Int × Int} {u : Int} {c : Nat → Nat} {L : List (Int × Nat)} (h : RgAt n al u c L) (hal : ∀ i, i < n → AlOk (al i)) (hs : bst (fun i => pos (al i) (c i)) n = -1 ∨ ∃ b : Nat, bst (fun i => pos (al i) (c i)) n = b ∧ u < pos (al b) (c b)) :
    (∀ x, x ∈ L ↔ Rg n al u x) ∧ ∀ i, i < n → pos (al i) (c i) < 0 ∨ u < pos (al i) (c i) := by
  have hst : ∀ i, i < n → pos (al i) (c i) < 0 ∨ u < pos (al i) (c i) := by
    intro i hi
    rcases bst_spec (fun i => pos (al i) (c i)) n with ⟨e, hm⟩ | ⟨b', e, hbn, h0, hmin⟩
    · exact .inl (hm i hi)
    · rcases hs with hs | ⟨b, hs, hu⟩
      · rw [hs] at e; omega
      · obtain rfl : b' = b := by omega
        try dsimp only at h0 hmin
        by_cases hp : 0 ≤ pos (al i) (c i)
        · have := hmin i hi hp; right; omega
        · left; omega
  refine ⟨fun x => ?_, hst⟩
  rw [h.mem]
  constructor
  · rintro ⟨h1, j, h2, h3⟩
    have := h.good x.2 h1 j h2
    exact ⟨h1, j, h3, by omega, h.le x ((h.mem x).2 ⟨h1, j, h2, h3⟩)⟩
  · rintro ⟨h1, j, h2, h3, h4⟩
    refine ⟨h1, j, ?_, h2⟩
    by_cases hj : j < c x.2
    · exact hj
    · exfalso
      have hp := pos_gone (hal x.2 h1) (show c x.2 ≤ j by omega) (by rw [← h2]; exact h3)
      rcases hst x.2 h1 with h5 | h5
      · omega
      · by_cases e : c x.2 = j
        · rw [e] at h5; omega
        · have := pos_lt (hal x.2 h1) (show c x.2 < j by omega) hp (by rw [← h2]; exact h3)
          omega
/-- how often an alarm rings up to a time -/
def cntA (a : Int × Int) (u : Int) : Int := if u < a.1 then 0 else if a.2 = 0 then 1 else (u - a.1) / a.2 + 1
theorem RgAt.count {n : Nat} {al : Nat → Int × Int} {u : Int} {c : Nat → Nat} {L : List (Int × Nat)} (h : RgAt n al u c L) (hal : ∀ i, i < n → AlOk (al i)) (hu : u ≤ MT) {i : Nat} (hi : i < n) (hst : pos (al i) (c i) < 0 ∨ u < pos (al i) (c i)) : (c i : Int) = cntA (al i) u := by
  have ha := hal i hi
  have a0 := ha.a0
  have a1 := ha.a1
  have e0 := ha.e0
  have hle : ∀ j, j < c i → pos (al i) j ≤ u ∧ 0 ≤ pos (al i) j := fun j hj => ⟨h.le (pos (al i) j, i) ((h.mem _).2 ⟨hi, j, hj, rfl⟩), h.good i hi j hj⟩
  unfold cntA
  by_cases h1 : u < (al i).1
  · rw [if_pos h1]
    by_cases hc : 0 < c i
    · have := (hle 0 hc).1
      rw [pos_zero ha] at this; omega
    · omega
  · rw [if_neg h1]
    have hc0 : 0 < c i := by
      by_cases hc : 0 < c i
      · exact hc
      · have : c i = 0 := by omega
        rw [this, pos_zero ha] at hst; omega
    by_cases h2 : (al i).2 = 0
    · rw [if_pos h2]
      by_cases hc : 1 < c i
      · have := pos_nonneg ha (hle 1 hc).2
        have := this.2.2 h2
        omega
      · omega
    · rw [if_neg h2]
      have hE : 0 < (al i).2 := by omega
      obtain ⟨p1, p2⟩ := hle (c i - 1) (by omega)
      obtain ⟨e1, _, _⟩ := pos_nonneg ha p2
      have hd := Int.mul_ediv_add_emod (u - (al i).1) (al i).2
      have hm0 := Int.emod_nonneg (u - (al i).1) h2
      have hm1 := Int.emod_lt_of_pos (u - (al i).1) hE
      rw [Int.mul_comm] at hd
      have hl : ((c i - 1 : Nat) : Int) ≤ (u - (al i).1) / (al i).2 := (Int.le_ediv_iff_mul_le hE).2 (by omega)
      have hg : (u - (al i).1) / (al i).2 < (c i : Int) := by
        apply Int.ediv_lt_of_lt_mul hE
        have hnn := Int.mul_nonneg (show (0 : Int) ≤ (c i : Int) by omega) e0
        rcases hst with h5 | h5
        · unfold pos at h5
          rw [if_neg h2] at h5
          by_cases h6 : (al i).1 + (c i : Int) * (al i).2 ≤ MT
          · rw [if_pos h6] at h5; omega
          · omega
        · unfold pos at h5
          rw [if_neg h2] at h5
          by_cases h6 : (al i).1 + (c i : Int) * (al i).2 ≤ MT
          · rw [if_pos h6] at h5; omega
          · omega
      omega
end Go.Proofs.YtjceahbikdncmaaDoor

namespace Go.Proofs.YtjceahbikdncmaaDoor

/-- the bit i of a list of words -/
def bat (ws : List Nat) (i : Nat) : Bool := (ws.getD (i / 64) 0).testBit (i % 64)

/-- the answer of Check -/
def chk (N : Int) (ws : List Nat) : Int :=
  if N < 0 ∨ 4096 < N then 7 else if (ws.length : Int) ≠ (N + 63) / 64 then 6
  else if ∀ i, i < 64 * ws.length → N.toNat ≤ i → bat ws i = false then 0 else 6

theorem chk_range {N : Int} {ws : List Nat} (h : N < 0 ∨ 4096 < N) : chk N ws = 7 := by unfold chk; rw [if_pos h]
theorem chk_len {N : Int} {ws : List Nat} (h : ¬ (N < 0 ∨ 4096 < N)) (h2 : (ws.length : Int) ≠ (N + 63) / 64) : chk N ws = 6 := by
  unfold chk; rw [if_neg h, if_pos h2]
theorem chk_ok {N : Int} {ws : List Nat} (h : ¬ (N < 0 ∨ 4096 < N)) (h2 : (ws.length : Int) = (N + 63) / 64) (h3 : ∀ i, i < 64 * ws.length → N.toNat ≤ i → bat ws i = false) : chk N ws = 0 := by
  unfold chk; rw [if_neg h, if_neg (by simpa using h2), if_pos h3]
theorem chk_bad {N : Int} {ws : List Nat} (h : ¬ (N < 0 ∨ 4096 < N)) (h2 : (ws.length : Int) = (N + 63) / 64) (i : Nat) (hi : i < 64 * ws.length) (hn : N.toNat ≤ i) (hb : bat ws i = true) : chk N ws = 6 := by
  unfold chk; rw [if_neg h, if_neg (by simpa using h2), if_neg]
  intro h3; rw [h3 i hi hn] at hb; cases hb

theorem getD_lt {ws : List Nat} {B : Nat} (h : ∀ x ∈ ws, x < B) (hB : 0 < B) (i : Nat) : ws.getD i 0 < B := by
  by_cases hi : i < ws.length
  · rw [List.getD_eq_getElem?_getD, List.getElem?_eq_getElem hi]; exact h _ (List.getElem_mem hi)
  · rw [List.getD_eq_getElem?_getD, List.getElem?_eq_none (by omega)]; exact hB

/-- The test that Check makes of the last word. -/
theorem chk_word0 {n : Nat} {ws : List Nat} (hn : n ≤ 4096) (hl : (ws.length : Int) = ((n : Int) + 63) / 64) (h64 : n % 64 = 0) : chk n ws = 0 := by
  refine chk_ok (by omega) hl fun i hi hni => ?_
  have : ws.length = n / 64 := by omega
  omega
theorem chk_word {n : Nat} {ws : List Nat} (hn : n ≤ 4096) (hl : (ws.length : Int) = ((n : Int) + 63) / 64) (h64 : 0 < n % 64) (hw : ∀ x ∈ ws, x < 2 ^ 64) :
    chk n ws = if ws.getD (n / 64) 0 / 2 ^ (n % 64) = 0 then 0 else 6 := by
  have hlen : ws.length = n / 64 + 1 := by omega
  split
  · rename_i h0
    refine chk_ok (by omega) hl fun i hi hni => ?_
    have e : i / 64 = n / 64 := by omega
    unfold bat
    rw [e]
    have hlt : ws.getD (n / 64) 0 < 2 ^ (n % 64) := by
      rcases Nat.div_eq_zero_iff.1 h0 with h | h
      · exact absurd h (by have := Nat.two_pow_pos (n % 64); omega)
      · exact h
    refine Nat.testBit_lt_two_pow (Nat.lt_of_lt_of_le hlt (Nat.pow_le_pow_right (by decide) ?_))
    omega
  · rename_i h0
    have hx := getD_lt hw (by decide) (n / 64)
    have hne : ws.getD (n / 64) 0 / 2 ^ (n % 64) ≠ 0 := h0
    obtain ⟨j, hj⟩ := Nat.exists_testBit_of_ne_zero hne
    rw [Nat.testBit_div_two_pow] at hj
    have hj64 : j + n % 64 < 64 := by
      rcases Nat.lt_or_ge (j + n % 64) 64 with h | h
      · exact h
      · have := Nat.testBit_lt_two_pow (Nat.lt_of_lt_of_le hx (Nat.pow_le_pow_right (by decide) h))
        rw [this] at hj; cases hj
    refine chk_bad (by omega) hl (64 * (n / 64) + (j + n % 64)) (by omega) (by omega) ?_
    unfold bat
    rw [show (64 * (n / 64) + (j + n % 64)) / 64 = n / 64 by omega, show (64 * (n / 64) + (j + n % 64)) % 64 = j + n % 64 by omega]
    exact hj
end Go.Proofs.YtjceahbikdncmaaDoor
