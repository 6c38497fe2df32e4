/- Boxes that hold bits: kept, and stored into. -/
import Derived.Test.YtikdgnfcckenmaaDoorBitsP
namespace Go.Proofs.YtikdgnfcckenmaaDoor
open Go.RowKit Go.Sort Go.Joins
attribute [local go_sem] cell_grow frozen_grow size_grow

/-- a box that holds bits -/
structure BBox (W : World) (B : Nat) (N : Int) (a : Option Addr) (L cap : Nat) (ws : List Nat) : Prop where
  n : W.cell? ⟨B, 0, none⟩ = some (.int .i64 N)
  s : W.cell? ⟨B, 1, none⟩ = some (.slice a L cap)
  f0 : W.frozen? ⟨B, 0, none⟩ = false
  f1 : W.frozen? ⟨B, 1, none⟩ = false
  k : SlK .u64 W a L ws
theorem BBox.lt {W : World} {B : Nat} {N : Int} {a : Option Addr} {L cap : Nat} {ws : List Nat} (h : BBox W B N a L cap ws) : B < W.heap.size := World.block_lt_of_cell? _ _ h.n
theorem BBox.below {W W' : World} {B : Nat} {N : Int} {a : Option Addr} {L cap : Nat} {ws : List Nat} (h : BBox W B N a L cap ws) (hb : Below W.heap.size W W') : BBox W' B N a L cap ws :=
  have hl := h.lt
  ⟨(hb.cell (p := ⟨B, 0, none⟩) hl).trans h.n, (hb.cell (p := ⟨B, 1, none⟩) hl).trans h.s, (hb.frozen (p := ⟨B, 0, none⟩) hl).trans h.f0, (hb.frozen (p := ⟨B, 1, none⟩) hl).trans h.f1, h.k.below hb⟩
theorem BBox.new {W : World} {N : Int} {a : Option Addr} {L cap : Nat} {ws : List Nat} (h : SlK .u64 W a L ws) (T : TypeId) : BBox (W.alloc (.cells #[.int .i64 N, .slice a L cap] T)) W.heap.size N a L cap ws :=
  ⟨by simp [go_sem], by simp [go_sem], by simp [go_sem], by simp [go_sem], h.alloc _⟩
theorem BBox.btr {W : World} {B : Nat} {N : Int} {a : Option Addr} {L cap : Nat} {ws : List Nat} (h : BBox W B N a L cap ws) (hl : ws.length = L) : BtR W (.agg #[.int .i64 N, .slice a L cap]) N ws := by
  subst hl; exact ⟨a, cap, rfl, h.k⟩
/-- a word's cell is not a cell of a box -/
theorem SlK.put {W : World} {A : Nat} {N : Int} {a0 : Option Addr} {L0 c0 : Nat} {a : Option Addr} {L : Nat} {ws : List Nat} (h : SlK .u64 W a L ws) (h0 : W.cell? ⟨A, 0, none⟩ = some (.int .i64 N)) (h1 : W.cell? ⟨A, 1, none⟩ = some (.slice a0 L0 c0)) (u v : Value) :
    SlK .u64 ((W.setCell ⟨A, 0, none⟩ u).setCell ⟨A, 1, none⟩ v) a L ws := by
  refine ⟨h.length, ?_⟩
  rcases h.cells with h2 | ⟨b, off, ha, hc⟩
  · exact .inl h2
  · refine .inr ⟨b, off, ha, fun j hj => ?_⟩
    have hcj := hc j hj
    have n0 : (⟨b, off + j, none⟩ : Addr) ≠ ⟨A, 0, none⟩ := fun e => by rw [e, h0] at hcj; simp at hcj
    have n1 : (⟨b, off + j, none⟩ : Addr) ≠ ⟨A, 1, none⟩ := fun e => by rw [e, h1] at hcj; simp at hcj
    exact (World.cell?_setCell_other _ _ _ _ n1.symm).trans ((World.cell?_setCell_other _ _ _ _ n0.symm).trans hcj)
/-- a box that is stored into -/
theorem BBox.put {W : World} {B : Nat} {N N' : Int} {a a' : Option Addr} {L L' cap cap' : Nat} {ws ws' : List Nat} (h : BBox W B N a L cap ws) (hk : SlK .u64 W a' L' ws') :
    BBox ((W.setCell ⟨B, 0, none⟩ (.int .i64 N')).setCell ⟨B, 1, none⟩ (.slice a' L' cap')) B N' a' L' cap' ws' :=
  have e0 := h.n
  have e1 := h.s
  have g0 := h.f0
  have g1 := h.f1
  ⟨by simp [go_sem, e0], by simp [go_sem, e1], by simp [go_sem, g0], by simp [go_sem, g1], hk.put h.n h.s _ _⟩
/-- another box, when one is stored into -/
theorem BBox.keep {W : World} {A B : Nat} {N : Int} {a : Option Addr} {L cap : Nat} {ws : List Nat} {N0 : Int} {a0 : Option Addr} {L0 cap0 : Nat} {ws0 : List Nat} (h : BBox W B N a L cap ws) (h0 : BBox W A N0 a0 L0 cap0 ws0) (hne : A ≠ B) (u v : Value) :
    BBox ((W.setCell ⟨A, 0, none⟩ u).setCell ⟨A, 1, none⟩ v) B N a L cap ws := by
  have e : ((W.setCell ⟨A, 0, none⟩ u).setCell ⟨A, 1, none⟩ v).heap[B]? = W.heap[B]? := (Below.heap_setCell _ _ _ _ hne.symm).trans (Below.heap_setCell _ _ _ _ hne.symm)
  exact ⟨(World.cell?_of_block e).trans h.n, (World.cell?_of_block e).trans h.s, (World.frozen?_of_block e).trans h.f0, (World.frozen?_of_block e).trans h.f1, h.k.put h0.n h0.s _ _⟩
theorem FAt.put {w : World} {N : Int} {a : Option Addr} {len cap : Nat} {ws : List Nat} {f t : Int} {on : Bool} {W : World} (h : FAt w N a len cap ws f t on W) {A : Nat} {N0 : Int} {a0 : Option Addr} {L0 cap0 : Nat} {ws0 : List Nat} (h0 : BBox W A N0 a0 L0 cap0 ws0) (hA : w.heap.size + 1 < A) (hT : Tab w) (u v : Value) :
    FAt w N a len cap ws f t on ((W.setCell ⟨A, 0, none⟩ u).setCell ⟨A, 1, none⟩ v) := by
  have hb : Below w.heap.size w ((W.setCell ⟨A, 0, none⟩ u).setCell ⟨A, 1, none⟩ v) := (h.k.setCell (p := ⟨A, 0, none⟩) (by dsimp only; omega) u).setCell (p := ⟨A, 1, none⟩) (by dsimp only; omega) v
  have E : ∀ B, B < A → ((W.setCell ⟨A, 0, none⟩ u).setCell ⟨A, 1, none⟩ v).heap[B]? = W.heap[B]? := fun B hB => (Below.heap_setCell _ _ _ _ (by dsimp only; omega)).trans (Below.heap_setCell _ _ _ _ (by dsimp only; omega))
  exact ⟨⟨(World.cell?_of_block (E _ (by dsimp only; omega))).trans h.b.n, (World.cell?_of_block (E _ (by dsimp only; omega))).trans h.b.s⟩, h.s.put h0.n h0.s _ _, hT.below hb, hb, (World.cell?_of_block (E _ hA)).trans h.x0, (World.cell?_of_block (E _ hA)).trans h.x1, (World.cell?_of_block (E _ hA)).trans h.x2, by simpa [World.setCell] using h.l⟩
end Go.Proofs.YtikdgnfcckenmaaDoor
