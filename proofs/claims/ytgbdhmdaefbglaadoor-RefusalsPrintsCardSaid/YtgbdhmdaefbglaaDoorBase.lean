/- General lemmas: worlds behind calls that only make memory; slices that read as lists; one plain statement each. -/
import Derived.Test.YtgbdhmdaefbglaaDoorProg
import Derived.WalkKit
import Derived.WalkSpells
import Derived.WalkLawsBesides
import Derived.Deep.QuietTactic
import Derived.BigQuiet
import Derived.Lib.Hide
import Derived.Lib.QuietBelow
namespace Go.Proofs.YtgbdhmdaefbglaaDoor
open Go.RowKit Go.Sort

/-- A cell of a block that is not old: kept behind a name. -/
def farCell (d : Nat) (os : Array Obj) (W : World) (a : Addr) : Option Value := (grow (redrawn W d) os).cell? a
def farFrozen (d : Nat) (os : Array Obj) (W : World) (a : Addr) : Bool := (grow (redrawn W d) os).frozen? a
theorem below_grow (W : World) (d : Nat) (os : Array Obj) : Below W.heap.size W (grow (redrawn W d) os) := below_regrown W d os
theorem cell_grow (W : World) (d : Nat) (os : Array Obj) (b o : Nat) (s : Option Nat) :
    (grow (redrawn W d) os).cell? ⟨b, o, s⟩ = if b < W.heap.size then W.cell? ⟨b, o, s⟩ else farCell d os W ⟨b, o, s⟩ := by
  split
  · rename_i h; exact (below_regrown W d os).cell (p := ⟨b, o, s⟩) h
  · rfl
theorem frozen_grow (W : World) (d : Nat) (os : Array Obj) (b o : Nat) (s : Option Nat) :
    (grow (redrawn W d) os).frozen? ⟨b, o, s⟩ = if b < W.heap.size then W.frozen? ⟨b, o, s⟩ else farFrozen d os W ⟨b, o, s⟩ := by
  split
  · rename_i h; exact (below_regrown W d os).frozen (p := ⟨b, o, s⟩) h
  · rfl
theorem size_grow (W : World) (d : Nat) (os : Array Obj) : (grow (redrawn W d) os).heap.size = W.heap.size + os.size := by
  simp [grow, redrawn]
attribute [local go_sem] cell_grow frozen_grow size_grow

theorem Below.size_le {B : Nat} {w w' : World} (h : Below B w w') : w.heap.size ≤ w'.heap.size := h.size
theorem below_tr {a b c : World} (h : Below a.heap.size a b) (k : Below b.heap.size b c) : Below a.heap.size a c := h.trans (k.mono h.size)

/-- a post that speaks of worlds that only grew -/
theorem Calls.grown_of {P : Program} {f : FuncId} {args : Array Value} {w W : World} {v : Value} (hW : Below w.heap.size w W)
    (h : Calls P f args W fun e w' => e = .returned v ∧ Below W.heap.size W w') : Calls P f args W fun e w' => e = .returned v ∧ Below w.heap.size w w' :=
  h.mono fun _ _ ⟨he, hb⟩ => ⟨he, below_tr hW hb⟩

/-- A slice of words. -/
structure SlK (k : IntKind) (w : World) (a : Option Addr) (len : Nat) (ws : List Nat) : Prop where
  length : ws.length = len
  cells : len = 0 ∨ ∃ b off, a = some ⟨b, off, none⟩ ∧ ∀ j, j < len → w.cell? ⟨b, off + j, none⟩ = some (.int k (ws.getD j 0 : Nat))

theorem SlK.below {k : IntKind} {w w' : World} {a : Option Addr} {len : Nat} {ws : List Nat} (h : SlK k w a len ws) (hb : Below w.heap.size w w') : SlK k w' a len ws := by
  refine ⟨h.length, ?_⟩
  rcases h.cells with h0 | ⟨b, off, ha, hc⟩
  · exact .inl h0
  · refine .inr ⟨b, off, ha, fun j hj => ?_⟩
    have := hc j hj
    rw [hb.cell (p := ⟨b, off + j, none⟩) (World.block_lt_of_cell? _ _ this)]; exact this
theorem SlK.alloc {k : IntKind} {w : World} {a : Option Addr} {len : Nat} {ws : List Nat} (h : SlK k w a len ws) (o : Obj) : SlK k (w.alloc o) a len ws :=
  h.below ((Below.refl _ _).alloc (Nat.le_refl _) o)
theorem SlK.grow {k : IntKind} {w : World} {a : Option Addr} {len : Nat} {ws : List Nat} (h : SlK k w a len ws) (d : Nat) (os : Array Obj) : SlK k (grow (redrawn w d) os) a len ws :=
  h.below (below_regrown w d os)

end Go.Proofs.YtgbdhmdaefbglaaDoor
