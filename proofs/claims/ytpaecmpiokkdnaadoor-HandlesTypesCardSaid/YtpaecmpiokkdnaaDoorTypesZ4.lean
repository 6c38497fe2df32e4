/- Package bits: Set. | Handles: slots as lists; tables in memory; what a method leaves alone. | Handles: new slots. | Handles: what Next finds. | Handles: Slot, of the program and of the reference. | Handles: what find answers. -/
import Derived.Test.YtpaecmpiokkdnaaDoorTypesZ3
import Derived.Deep.RegionHeld3
import Derived.Deep.DeepCutAuto
namespace Go.Proofs.YtpaecmpiokkdnaaDoor
open Go.RowKit Go.Sort Go.Joins
attribute [local go_sem] cell_grow frozen_grow size_grow

theorem keepN {W nxt : World} {C : World → Prop} (hC : Hid (∀ w', Below W.heap.size W w' → C w')) (h : Below W.heap.size W nxt) : Below W.heap.size W nxt ∧ C nxt := ⟨h, hC _ h⟩
theorem lay_alloc {G : Prop} {W w' : World} {a b : Value} {T : TypeId} {g : Nat} (hb : Below (W.alloc (.cells #[a, b] T)).drew.heap.size (W.alloc (.cells #[a, b] T)).drew w') (hg : g = W.heap.size)
    (k : w'.cell? ⟨g, 0, none⟩ = some a → w'.cell? ⟨g, 1, none⟩ = some b → (∀ j, w'.frozen? ⟨g, j, none⟩ = false) → G) : G := by
  subst hg
  refine k ?_ ?_ fun j => ?_
  · rw [hb.cell (p := ⟨W.heap.size, 0, none⟩) (by simp)]; exact (World.cell?_alloc_at (w := W) _ _ _ _ rfl).trans rfl
  · rw [hb.cell (p := ⟨W.heap.size, 1, none⟩) (by simp)]; exact (World.cell?_alloc_at (w := W) _ _ _ _ rfl).trans rfl
  · rw [hb.frozen (p := ⟨W.heap.size, j, none⟩) (by simp)]; exact World.frozen?_alloc_at (w := W) _ _ _ _ rfl
theorem own_slice {w : World} {base len : Nat} {e : TypeId} {v : Value} {xs : List Value} (h : w.ownsRow base e 1 v len xs) : ∃ a cap, v = .slice a len cap := by
  rcases ownsRow_forms h with ⟨rfl, rfl⟩ | ⟨g, cap, rfl⟩
  · exact ⟨_, _, rfl⟩
  · exact ⟨_, _, rfl⟩
theorem bel_alloc {W cur : World} {C : Prop} (h : Below W.heap.size W cur ∧ C) (o : Obj) : Below W.heap.size W (cur.alloc o) := h.1.alloc h.1.size o
theorem bel_realloc {W cur : World} {o : Obj} {C : Prop} (h : Below W.heap.size W (cur.alloc o) ∧ C) (hle : W.heap.size ≤ cur.heap.size) (o' : Obj) : Below W.heap.size W (cur.alloc o') :=
  ⟨h.1.os, h.1.tape, h.1.output, by simp; omega, fun k hk => by rw [Below.heap_alloc _ _ _ (by omega), ← h.1.block k hk, Below.heap_alloc _ _ _ (by omega)]⟩
theorem bel_call {W cur nxt : World} {C : Prop} (h : Below W.heap.size W cur ∧ C) (hb : Below cur.heap.size cur nxt) : Below W.heap.size W nxt := below_tr h.1 hb
theorem bel_set2 {W cur : World} {C : Prop} (h : Below W.heap.size W cur ∧ C) {g i j : Nat} (hg : W.heap.size ≤ g) (u v : Value) : Below W.heap.size W ((cur.setCell ⟨g, i, none⟩ u).setCell ⟨g, j, none⟩ v) := (h.1.setCell (p := ⟨g, i, none⟩) hg u).setCell (p := ⟨g, j, none⟩) hg v

set_option maxHeartbeats 1600000 in
theorem bSet_ok (n f t : Nat) (on : Bool) (a : Option Addr) (len cap : Nat) (ws : List Nat) (w : World) (hs : SlK .u64 w a len ws) (hw : ∀ x ∈ ws, x < 18446744073709551616) (hc : chk n ws = 0) (hft : f ≤ t) (ht : t ≤ n) :
    Calls Tryd.prog 80 #[.agg #[.int .i64 n, .slice a len cap], .int .i64 f, .int .i64 t, .bool on] w fun e w' => ∃ a' cap', e = .returned (.tuple #[.agg #[.int .i64 n, .slice a' len cap'], .int .i64 0]) ∧
      w'.ownsRow w.heap.size 144 1 (.slice a' len cap') len (u64s (pack (filled (bat ws) f t on) len)) ∧ Below w.heap.size w w' := by
  have hp : prt n ws f t = 0 := prt_ok hc (by omega)
  obtain ⟨_, hN, hl, _⟩ := chk_zero hc
  have hL := hs.length
  have hlen : len ≤ 64 := by omega
  have htl : t ≤ 64 * len := by omega
  clear hl hc
  have P1 := bpart_ok w.heap.size n f t a len cap ws _ ((AtBits.new w n a len cap 97).below (below_box0 _ (.cells #[.int .i64 0, .slice none 0 0] 97))) ((hs.alloc _).alloc _) hw (by omega)
  rw [hp] at P1
  have HP := Lib.hid P1
  clear P1 hp
  go_enter Tryd.func80, Tryd.ntmps80
  go_wp2_with fail
  refine HP.out.mono ?_
  rintro e W ⟨rfl, hb⟩
  have hz : w.heap.size + 1 < W.heap.size := by have := hb.size; simp at this; omega
  have c0 : W.cell? ⟨w.heap.size, 0, none⟩ = some (.int .i64 n) := by rw [hb.cell (p := ⟨w.heap.size, 0, none⟩) (by simp; omega)]; simp [go_sem]
  have c1 : W.cell? ⟨w.heap.size, 1, none⟩ = some (.slice a len cap) := by rw [hb.cell (p := ⟨w.heap.size, 1, none⟩) (by simp; omega)]; simp [go_sem]
  have d0 : W.cell? ⟨w.heap.size + 1, 0, none⟩ = some (.int .i64 0) := by rw [hb.cell (p := ⟨w.heap.size + 1, 0, none⟩) (by simp)]; simp [go_sem]
  have d1 : W.cell? ⟨w.heap.size + 1, 1, none⟩ = some (.slice none 0 0) := by rw [hb.cell (p := ⟨w.heap.size + 1, 1, none⟩) (by simp)]; simp [go_sem]
  have d2 : ∀ j, W.frozen? ⟨w.heap.size + 1, j, none⟩ = false := fun j => by rw [hb.frozen (p := ⟨w.heap.size + 1, j, none⟩) (by simp)]; simp [go_sem]
  have hsW : SlK .u64 W a len ws := ((hs.alloc _).alloc _).below hb
  have hB : Below w.heap.size w W := (below_alloc2 w _ _).trans (hb.mono (by simp; omega))
  have HB := Lib.hid hB
  clear hb hB hs HP
  go_upto_region 4 with fail
  go_cut [11] (fun s11 wx => ∃ g a' cap', s11 = .pointer (some ⟨g, 0, none⟩) ∧ wx.cell? ⟨g, 0, none⟩ = some (.int .i64 n) ∧ wx.cell? ⟨g, 1, none⟩ = some (.slice a' len cap') ∧ wx.ownsRow W.heap.size 144 1 (.slice a' len cap') len (u64s ws) ∧
    (∀ h, a' = some h → h.block ≠ g) ∧ Below W.heap.size W wx)
  case first =>
    have HC : Hid (∀ w', Below W.heap.size W w' → w'.cell? ⟨w.heap.size, 0, none⟩ = some (.int .i64 n) ∧ w'.cell? ⟨w.heap.size, 1, none⟩ = some (.slice a len cap)) := fun w' h => ⟨cell_later h c0, cell_later h c1⟩
    go_region_held3 (fun w' => Below W.heap.size W w' ∧ w'.cell? ⟨w.heap.size, 0, none⟩ = some (.int .i64 n) ∧ w'.cell? ⟨w.heap.size, 1, none⟩ = some (.slice a len cap))
      ((refine keepN HC ?_; first | exact (Below.refl _ _).drew | exact bel_alloc (by assumption) _ | exact bel_call (by assumption) (by assumption) | exact bel_realloc (by assumption) (by first | omega | (simp; omega) | simp) _ | exact bel_set2 (by assumption) (by first | omega | (simp; omega) | simp) _ _))
      (first | (go_at_call 86; refine (clone_ok a len cap ws _ (hsW.below (And.left (by assumption))) (by omega)).mono ?_; rintro e w' ⟨v, rfl, hown, hb⟩; have hbW : Below W.heap.size W w' := bel_call (W := W) (by assumption) hb; have hsz : W.heap.size ≤ w'.heap.size := hbW.size; obtain ⟨va, vcap, rfl⟩ : ∃ va vcap, v = .slice va len vcap := own_slice hown; first | (refine lay_alloc (g := W.heap.size) hb rfl (fun q0 q1 q2 => ?_)) | skip))
    · go_wp2_with fail
      go_meet
      exact ⟨w'.heap.size, va, vcap, rfl, by simp [go_sem], by simp [go_sem], hown.alloc _, fun h e => by have := (hown.lt h.block (by rw [e]; rfl)).2; omega, hbW.alloc hsz _⟩
    · go_wp2_with fail
      go_meet
      have hne : ∀ h, va = some h → h.block ≠ W.heap.size := fun h e => by have := (hown.lt h.block (by rw [e]; rfl)).1; simp at this; omega
      have hob : ∀ j, (Value.slice va len vcap).ownBlock ≠ some (⟨W.heap.size, j, none⟩ : Addr).block := fun j e => by
        cases va with
        | none => cases e
        | some h => exact hne h rfl (by simpa [Value.ownBlock] using e)
      exact ⟨W.heap.size, va, vcap, rfl, by simp [go_sem, q0], by simp [go_sem, q1], ownsRow_setCell_other (ownsRow_setCell_other (ownsRow_le hown (by simp)) (hob 0) _) (hob 1) _, hne, (hbW.setCell (p := ⟨W.heap.size, 0, none⟩) (Nat.le_refl _) _).setCell (p := ⟨W.heap.size, 1, none⟩) (Nat.le_refl _) _⟩
  case rest =>
    obtain ⟨g, a', cap', rfl, e0, e1, ho, hne, hb⟩ := hcut
    have hob : (some g : Option Nat) ≠ (Value.slice a' len cap').ownBlock := fun e => by
      cases a' with
      | none => cases e
      | some h => exact hne h rfl (by simpa [Value.ownBlock] using e.symm)
    have hoH : (some (w.heap.size + 1) : Option Nat) ≠ (Value.slice a' len cap').ownBlock := fun e => by
      have := (ho.lt _ e.symm).1; omega
    have q0 : wc.cell? ⟨w.heap.size + 1, 0, none⟩ = some (.int .i64 0) := cell_later hb d0
    have q1 : wc.cell? ⟨w.heap.size + 1, 1, none⟩ = some (.slice none 0 0) := cell_later hb d1
    have q2 : ∀ j, wc.frozen? ⟨w.heap.size + 1, j, none⟩ = false := fun j => by rw [hb.frozen (p := ⟨w.heap.size + 1, j, none⟩) (by dsimp only; omega)]; exact d2 j
    have F := Lib.hid (bfill_ok W.heap.size (.slice a' len cap') len f t on ws wc ho hw hL htl hlen hft)
    have HBX := Lib.hid (HB.out.trans (hb.mono (by omega)))
    have HO := Lib.hid ho
    have HN := Lib.hid hob
    have HN2 := Lib.hid hoH
    have hzx : w.heap.size + 1 < wc.heap.size := by have := hb.size; omega
    have hgx : g < wc.heap.size := World.block_lt_of_cell? _ _ e0
    clear hb ho hob hoH hne c0 c1 d0 d1 d2 hsW hL
    go_wp2_with fail
    refine F.out.mono ?_
    rintro e w2 ⟨rfl, hown, hg⟩
    have r0 : w2.cell? ⟨w.heap.size + 1, 0, none⟩ = some (.int .i64 0) := hg.cell q0 HN2.out
    have r1 : w2.cell? ⟨w.heap.size + 1, 1, none⟩ = some (.slice none 0 0) := hg.cell q1 HN2.out
    have r2 : ∀ j, w2.frozen? ⟨w.heap.size + 1, j, none⟩ = false := fun j => by rw [World.frozen?_of_block (hg.block (w.heap.size + 1) hzx HN2.out)]; exact q2 j
    have r3 : w2.cell? ⟨g, 0, none⟩ = some (.int .i64 n) := hg.cell e0 HN.out
    have r4 : w2.cell? ⟨g, 1, none⟩ = some (.slice a' len cap') := hg.cell e1 HN.out
    have HB2 := Lib.hid (HBX.out.grown hg (by omega) (fun k hk => by have := (HO.out.lt k hk).1; omega))
    have HO2 := Lib.hid hown
    clear hown hg q0 q1 q2 e0 e1
    go_wp2
    refine bodyPost_ret (v := .tuple #[.agg #[.int .i64 n, .slice a' len cap'], .int .i64 0]) (by simp [results, Tryd.results80, go_sem, r0, r1]) rfl ?_
    have hob : ∀ j, (Value.slice a' len cap').ownBlock ≠ some (⟨w.heap.size + 1, j, none⟩ : Addr).block := fun j e => HN2.out e.symm
    exact ⟨_, _, rfl, ownsRow_le (ownsRow_setCell_other (ownsRow_setCell_other HO2.out (hob 0) _) (hob 1) _) (by omega), (HB2.out.setCell (p := ⟨w.heap.size + 1, 0, none⟩) (by simp) _).setCell (p := ⟨w.heap.size + 1, 1, none⟩) (by simp) _⟩
end Go.Proofs.YtpaecmpiokkdnaaDoor

namespace Go.Proofs.YtpaecmpiokkdnaaDoor
open Go.RowKit Go.Sort Go.Joins

/-- a slot: how many handles, alive, value -/
abbrev Slt := Nat × Bool × Value
def sc (s : Slt) : List Value := [.int .i64 (s.1 : Int), .bool s.2.1, s.2.2]
def slotCells : List Slt → List Value
  | [] => []
  | s :: l => sc s ++ slotCells l
theorem slotCells_length : ∀ st : List Slt, (slotCells st).length = 3 * st.length
  | [] => rfl
  | s :: l => by simp only [slotCells, List.length_append, slotCells_length l, sc, List.length_cons, List.length_nil]; omega
theorem slotCells_get : ∀ (st : List Slt) (i j : Nat) (_ : i < st.length) (_ : j < 3), (slotCells st)[i * 3 + j]? = (sc (st.getD i (0, false, undef)))[j]?
  | [], i, _, h, _ => by simp at h
  | s :: l, 0, j, _, hj => by
    simp only [slotCells, Nat.zero_mul, Nat.zero_add]
    rw [List.getElem?_append_left (by simp [sc]; omega)]; rfl
  | s :: l, i + 1, j, h, hj => by
    simp only [slotCells]
    rw [List.getElem?_append_right (by simp [sc]; omega), show (i + 1) * 3 + j - (sc s).length = i * 3 + j by simp [sc]; omega, slotCells_get l i j (by simpa using h) hj]
    rfl
theorem slotCells_set : ∀ (st : List Slt) (i : Nat) (_ : i < st.length) (s : Slt), slotCells (st.set i s) = (((slotCells st).set (i * 3) (.int .i64 (s.1 : Int))).set (i * 3 + 1) (.bool s.2.1)).set (i * 3 + 2) s.2.2
  | [], i, h, _ => by simp at h
  | t :: l, 0, _, s => by simp [slotCells, sc]
  | t :: l, i + 1, h, s => by
    simp only [List.set_cons_succ, slotCells]
    rw [slotCells_set l i (by simpa using h) s, show (i + 1) * 3 = (i * 3) + 3 by omega]
    simp [sc]
theorem set_get {α : Type} (l : List α) (i : Nat) (d : α) (_ : i < l.length) : l.set i (l.getD i d) = l := by
  apply List.ext_getElem?
  intro j
  rw [List.getElem?_set]
  by_cases h : i = j
  · subst h
    rw [if_pos rfl, if_pos (by assumption)]
    simp [*]
  · rw [if_neg h]

/-- can the slot give a handle? -/
def rdy (s : Slt) : Bool := !s.2.1 && decide (s.1 < 65535)
/-- a table at block p, its slots at block q; the bits r say which slots can give a handle -/
structure Tb (TBL SLOT : TypeId) (w : World) (B p q : Nat) (st : List Slt) (m : Nat) (r : Nat → Bool) : Prop where
  hp : B ≤ p
  hq : B ≤ q
  ne : p ≠ q
  n1 : 1 ≤ st.length
  n2 : st.length ≤ 1024
  tbl : ∃ ra rcap, w.heap[p]? = some (.cells #[.slice (some ⟨q, 0, none⟩) st.length st.length, .int .i64 (st.length : Int), .slice ra ((st.length + 63) / 64) rcap, .int .i64 (m : Int)] TBL (0, 0)) ∧
    w.ownsRow B 144 1 (.slice ra ((st.length + 63) / 64) rcap) ((st.length + 63) / 64) (u64s (pack r ((st.length + 63) / 64)))
  slots : w.heap[q]? = some (.cells (slotCells st).toArray SLOT (0, 0))
  rb : ∀ i, st.length ≤ i → r i = false

/-- all but the blocks p and q is as it was -/
structure Fr (p q : Nat) (w w' : World) : Prop where
  os : w'.os = w.os
  tape : w'.tape = w.tape
  output : w'.output = w.output
  size : w.heap.size ≤ w'.heap.size
  block : ∀ k, k < w.heap.size → k ≠ p → k ≠ q → w'.heap[k]? = w.heap[k]?
theorem Fr.refl (p q : Nat) (w : World) : Fr p q w w := ⟨rfl, rfl, rfl, Nat.le_refl _, fun _ _ _ _ => rfl⟩
theorem Fr.trans {p q : Nat} {a b c : World} (h : Fr p q a b) (k : Fr p q b c) : Fr p q a c :=
  ⟨k.os.trans h.os, k.tape.trans h.tape, k.output.trans h.output, Nat.le_trans h.size k.size, fun i hi h1 h2 => (k.block i (Nat.lt_of_lt_of_le hi h.size) h1 h2).trans (h.block i hi h1 h2)⟩
theorem Fr.of_below {p q : Nat} {w w' : World} (h : Below w.heap.size w w') : Fr p q w w' := ⟨h.os, h.tape, h.output, h.size, fun k hk _ _ => h.block k hk⟩
theorem Fr.setP {p q : Nat} (w : World) (j : Nat) (v : Value) : Fr p q w (w.setCell ⟨p, j, none⟩ v) :=
  ⟨rfl, rfl, rfl, by simp [World.setCell], fun k _ h1 _ => Below.heap_setCell _ _ _ _ h1⟩
theorem Fr.setQ {p q : Nat} (w : World) (j : Nat) (v : Value) : Fr p q w (w.setCell ⟨q, j, none⟩ v) :=
  ⟨rfl, rfl, rfl, by simp [World.setCell], fun k _ _ h2 => Below.heap_setCell _ _ _ _ h2⟩
theorem Fr.below {p q B : Nat} {a w w' : World} (h : Below B a w) (k : Fr p q w w') (hp : B ≤ p) (hq : B ≤ q) (hB : B ≤ w.heap.size) : Below B a w' :=
  h.trans ⟨k.os, k.tape, k.output, k.size, fun i hi => k.block i (by omega) (by omega) (by omega)⟩

theorem blk_lt {w : World} {k : Nat} {o : Obj} (h : w.heap[k]? = some o) : k < w.heap.size := by
  rcases Nat.lt_or_ge k w.heap.size with h' | h'
  · exact h'
  · rw [Array.getElem?_eq_none h'] at h; cases h
theorem own_below {w w' : World} {base : Nat} {e : TypeId} {size : Nat} {v : Value} {n : Nat} {xs : List Value} (h : w.ownsRow base e size v n xs) (hb : Below w.heap.size w w') : w'.ownsRow base e size v n xs := by
  obtain ⟨h1, h2⟩ := h
  refine ⟨h1, ?_⟩
  rcases h2 with h2 | ⟨g, cap, cur, hv, hg, hh, r⟩
  · exact Or.inl h2
  · exact Or.inr ⟨g, cap, cur, hv, hg, by rw [hb.block _ (blk_lt hh)]; exact hh, r⟩
/-- an owned row is not in a block of another type -/
theorem own_ne {w : World} {base : Nat} {e t : TypeId} {v : Value} {n : Nat} {xs : List Value} {k : Nat} {cs : Array Value} {fz : Nat × Nat} (h : w.ownsRow base e 1 v n xs) (hk : w.heap[k]? = some (.cells cs t fz)) (hne : e ≠ t) : v.ownBlock ≠ some k := by
  rcases h.2 with ⟨h2, _⟩ | ⟨g, cap, cur, hv, hg, hh, _⟩
  · rw [h2]; intro e; cases e
  · rw [hv]
    intro e'
    have : g = k := by simpa [Value.ownBlock] using e'
    subst this
    rw [hh] at hk
    simp only [Option.some.injEq, Obj.cells.injEq] at hk
    exact hne hk.2.1

section
variable {TBL SLOT : TypeId} {w w' : World} {B p q : Nat} {st : List Slt} {m : Nat} {r : Nat → Bool}

theorem Tb.below (h : Tb TBL SLOT w B p q st m r) (hb : Below w.heap.size w w') : Tb TBL SLOT w' B p q st m r := by
  obtain ⟨ra, rcap, h1, h2⟩ := h.tbl
  exact ⟨h.hp, h.hq, h.ne, h.n1, h.n2, ⟨ra, rcap, by rw [hb.block _ (blk_lt h1)]; exact h1, own_below h2 hb⟩, by rw [hb.block _ (blk_lt h.slots)]; exact h.slots, h.rb⟩

theorem setCell_block {w : World} {g i : Nat} {cs : Array Value} {t : TypeId} (h : w.heap[g]? = some (.cells cs t (0, 0))) (v : Value) : (w.setCell ⟨g, i, none⟩ v).heap[g]? = some (.cells (cs.setIfInBounds i v) t (0, 0)) := by
  have := block_setCell h (i := i) v; exact this

/-- the three cells of a slot are stored, and the number of those alive -/
theorem Tb.stored (h : Tb TBL SLOT w B p q st m r) (hs : 144 ≠ SLOT) (ht : 144 ≠ TBL) {i : Nat} (hi : i < st.length) (s : Slt) (m' : Nat) :
    Tb TBL SLOT ((((w.setCell ⟨q, i * 3, none⟩ (.int .i64 (s.1 : Int))).setCell ⟨q, i * 3 + 1, none⟩ (.bool s.2.1)).setCell ⟨q, i * 3 + 2, none⟩ s.2.2).setCell ⟨p, 3, none⟩ (.int .i64 (m' : Int))) B p q (st.set i s) m' r := by
  obtain ⟨ra, rcap, h1, h2⟩ := h.tbl
  have o1 := own_ne h2 h.slots hs
  have o2 := own_ne h2 h1 ht
  have hq0 := h.slots
  have hne := h.ne
  refine ⟨h.hp, h.hq, h.ne, by simpa using h.n1, by simpa using h.n2, ⟨ra, rcap, ?_, ?_⟩, ?_, by simpa using h.rb⟩
  · have e : ((((w.setCell ⟨q, i * 3, none⟩ (.int .i64 (s.1 : Int))).setCell ⟨q, i * 3 + 1, none⟩ (.bool s.2.1)).setCell ⟨q, i * 3 + 2, none⟩ s.2.2)).heap[p]? = some (.cells #[.slice (some ⟨q, 0, none⟩) st.length st.length, .int .i64 (st.length : Int), .slice ra ((st.length + 63) / 64) rcap, .int .i64 (m : Int)] TBL (0, 0)) := by
      rw [Below.heap_setCell _ _ _ _ hne, Below.heap_setCell _ _ _ _ hne, Below.heap_setCell _ _ _ _ hne]; exact h1
    rw [setCell_block e]; simp
  · rw [List.length_set]
    exact ownsRow_setCell_other (ownsRow_setCell_other (ownsRow_setCell_other (ownsRow_setCell_other h2 (by simpa using o1) _) (by simpa using o1) _) (by simpa using o1) _) (by simpa using o2) _
  · rw [Below.heap_setCell _ _ _ _ hne.symm, setCell_block (setCell_block (setCell_block hq0 _) _) _, slotCells_set st i hi s]; simp

/-- the bits are stored anew -/
theorem Tb.noted {ra' : Option Addr} {rcap' : Nat} {r' : Nat → Bool} (h : Tb TBL SLOT w B p q st m r) (ht : 144 ≠ TBL) (hb : Below w.heap.size w w') (ho : w'.ownsRow B 144 1 (.slice ra' ((st.length + 63) / 64) rcap') ((st.length + 63) / 64) (u64s (pack r' ((st.length + 63) / 64))))
    (hr : ∀ i, st.length ≤ i → r' i = false) :
    Tb TBL SLOT ((w'.setCell ⟨p, 1, none⟩ (.int .i64 (st.length : Int))).setCell ⟨p, 2, none⟩ (.slice ra' ((st.length + 63) / 64) rcap')) B p q st m r' := by
  have h' := h.below hb
  obtain ⟨ra, rcap, h1, h2⟩ := h'.tbl
  have o2 := own_ne ho h1 ht
  have hne := h.ne
  refine ⟨h.hp, h.hq, h.ne, h.n1, h.n2, ⟨ra', rcap', ?_, ?_⟩, ?_, hr⟩
  · rw [setCell_block (setCell_block h1 _) _]; simp
  · exact ownsRow_setCell_other (ownsRow_setCell_other ho (by simpa using o2) _) (by simpa using o2) _
  · rw [Below.heap_setCell _ _ _ _ hne.symm, Below.heap_setCell _ _ _ _ hne.symm]; exact h'.slots

theorem pack_filled (r : Nat → Bool) (len f t : Nat) (b : Bool) : pack (filled (bat (pack r len)) f t b) len = pack (filled r f t b) len :=
  pack_congr fun i hi => by unfold filled; rw [pack_bat _ _ _ hi]
/-- .. as note leaves them -/
theorem Tb.noted' {ra' : Option Addr} {rcap' i : Nat} {b c : Bool} (h : Tb TBL SLOT w B p q st m r) (ht : 144 ≠ TBL) (hi : i < st.length) (hB : B ≤ w.heap.size) (hbc : b = c) (hb : Below w.drew.heap.size w.drew w')
    (ho : w'.ownsRow w.drew.heap.size 144 1 (.slice ra' ((st.length + 63) / 64) rcap') ((st.length + 63) / 64) (u64s (pack (filled (bat (pack r ((st.length + 63) / 64))) i (i + 1) b) ((st.length + 63) / 64)))) :
    Tb TBL SLOT ((w'.setCell ⟨p, 1, none⟩ (.int .i64 (st.length : Int))).setCell ⟨p, 2, none⟩ (.slice ra' ((st.length + 63) / 64) rcap')) B p q st m (filled r i (i + 1) c) ∧
    Fr p q w ((w'.setCell ⟨p, 1, none⟩ (.int .i64 (st.length : Int))).setCell ⟨p, 2, none⟩ (.slice ra' ((st.length + 63) / 64) rcap')) := by
  subst hbc
  have hb' : Below w.heap.size w w' := ⟨hb.os, hb.tape, hb.output, hb.size, hb.block⟩
  rw [pack_filled] at ho
  refine ⟨h.noted ht hb' (ownsRow_le ho hB) fun j hj => ?_, ((Fr.of_below hb').trans (Fr.setP _ _ _)).trans (Fr.setP _ _ _)⟩
  unfold filled
  rw [if_neg (by omega)]
  exact h.rb j hj

/-- the cells that the methods read -/
theorem Tb.c0 (h : Tb TBL SLOT w B p q st m r) : w.cell? ⟨p, 0, none⟩ = some (.slice (some ⟨q, 0, none⟩) st.length st.length) := by
  obtain ⟨ra, rcap, h1, h2⟩ := h.tbl; rw [cell_of_block h1]; rfl
theorem Tb.c1 (h : Tb TBL SLOT w B p q st m r) : w.cell? ⟨p, 1, none⟩ = some (.int .i64 (st.length : Int)) := by
  obtain ⟨ra, rcap, h1, h2⟩ := h.tbl; rw [cell_of_block h1]; rfl
theorem Tb.c2 (h : Tb TBL SLOT w B p q st m r) : ∃ ra rcap, w.cell? ⟨p, 2, none⟩ = some (.slice ra ((st.length + 63) / 64) rcap) ∧ SlK .u64 w ra ((st.length + 63) / 64) (pack r ((st.length + 63) / 64)) := by
  obtain ⟨ra, rcap, h1, h2⟩ := h.tbl; exact ⟨ra, rcap, by rw [cell_of_block h1]; rfl, SlK.of_own h2⟩
theorem Tb.c3 (h : Tb TBL SLOT w B p q st m r) : w.cell? ⟨p, 3, none⟩ = some (.int .i64 (m : Int)) := by
  obtain ⟨ra, rcap, h1, h2⟩ := h.tbl; rw [cell_of_block h1]; rfl
theorem Tb.fp (h : Tb TBL SLOT w B p q st m r) (j : Nat) : w.frozen? ⟨p, j, none⟩ = false := by
  obtain ⟨ra, rcap, h1, h2⟩ := h.tbl; exact unfrozen_of_block h1 j
theorem Tb.fq (h : Tb TBL SLOT w B p q st m r) (j : Nat) : w.frozen? ⟨q, j, none⟩ = false := unfrozen_of_block h.slots j
theorem Tb.s0 (h : Tb TBL SLOT w B p q st m r) {i : Nat} (hi : i < st.length) : w.cell? ⟨q, i * 3, none⟩ = some (.int .i64 ((st.getD i (0, false, undef)).1 : Int)) := by
  rw [cell_of_block h.slots, List.getElem?_toArray]; exact (slotCells_get st i 0 hi (by decide)).trans rfl
theorem Tb.s1 (h : Tb TBL SLOT w B p q st m r) {i : Nat} (hi : i < st.length) : w.cell? ⟨q, i * 3 + 1, none⟩ = some (.bool (st.getD i (0, false, undef)).2.1) := by
  rw [cell_of_block h.slots, List.getElem?_toArray]; exact (slotCells_get st i 1 hi (by decide)).trans rfl
theorem Tb.s2 (h : Tb TBL SLOT w B p q st m r) {i : Nat} (hi : i < st.length) : w.cell? ⟨q, i * 3 + 2, none⟩ = some (st.getD i (0, false, undef)).2.2 := by
  rw [cell_of_block h.slots, List.getElem?_toArray]; exact (slotCells_get st i 2 hi (by decide)).trans rfl
theorem Tb.chk0 (h : Tb TBL SLOT w B p q st m r) : chk st.length (pack r ((st.length + 63) / 64)) = 0 := by
  have := h.n2
  refine chk_ok (by omega) (by rw [pack_length]; omega) fun i hi hn => ?_
  rw [pack_length] at hi
  rw [pack_bat _ _ _ hi]
  exact h.rb i (by omega)
end
end Go.Proofs.YtpaecmpiokkdnaaDoor

namespace Go.Proofs.YtpaecmpiokkdnaaDoor
open Go.RowKit Go.Sort Go.Joins

theorem slotCells_replicate (s : Slt) : ∀ (n k : Nat), k < n * 3 → (slotCells (List.replicate n s))[k]? = (sc s)[k % 3]?
  | 0, k, h => by omega
  | n + 1, k, h => by
    rw [List.replicate_succ]
    simp only [slotCells]
    by_cases hk : k < 3
    · rw [List.getElem?_append_left (by simp [sc]; omega), Nat.mod_eq_of_lt hk]
    · rw [List.getElem?_append_right (by simp [sc]; omega), show k - (sc s).length = k - 3 by simp [sc], slotCells_replicate s n (k - 3) (by omega), show (k - 3) % 3 = k % 3 by omega]
theorem made_slots (n : Nat) (z : Value) : (madeCells #[.int .i64 0, .bool false, z] (n * 3)).toList = slotCells (List.replicate n (0, false, z)) := by
  apply List.ext_getElem?
  intro k
  by_cases hk : k < n * 3
  · rw [slotCells_replicate _ _ _ hk]
    have h3 : k % 3 < 3 := Nat.mod_lt _ (by decide)
    simp only [madeCells, Array.toList_map, Array.toList_range, List.getElem?_map, List.getElem?_range hk, Option.map_some]
    obtain ⟨j, hj⟩ : ∃ j, j = k % 3 := ⟨_, rfl⟩
    have e : k % (#[Value.int .i64 0, .bool false, z] : Array Value).size = j := by rw [hj]; rfl
    rw [e, ← hj]
    rw [← hj] at h3
    match j, h3 with
    | 0, _ => rfl
    | 1, _ => rfl
    | 2, _ => rfl
  · rw [List.getElem?_eq_none (by simp [madeCells]; omega), List.getElem?_eq_none (by rw [slotCells_length, List.length_replicate]; omega)]
end Go.Proofs.YtpaecmpiokkdnaaDoor

namespace Go.Proofs.YtpaecmpiokkdnaaDoor
open Go.RowKit Go.Sort Go.Joins

theorem nxt_congr {p q : Nat → Bool} {a n : Nat} (han : a ≤ n) (h : ∀ i, a ≤ i → i < n → p i = q i) : nxt p a n = nxt q a n := by
  obtain ⟨h1, h2, h3, h4⟩ := nxt_spec (p := q) han
  exact nxt_eq han h1 h2 (fun i hi hj => by rw [h i hi (by omega)]; exact h3 i hi hj) (fun hlt => by rw [h _ h1 hlt]; exact h4 hlt)
theorem next_tb {TBL SLOT : TypeId} {w : World} {B p q : Nat} {st : List Slt} {m : Nat} {r : Nat → Bool} (h : Tb TBL SLOT w B p q st m r) :
    nextV st.length (pack r ((st.length + 63) / 64)) 0 true = (if nxt r 0 st.length < st.length then ((nxt r 0 st.length : Nat) : Int) else 0) ∧
    nextE st.length (pack r ((st.length + 63) / 64)) 0 true = (if nxt r 0 st.length < st.length then 0 else 4) := by
  have e : nxt (look (pack r ((st.length + 63) / 64)) true) 0 st.length = nxt r 0 st.length := nxt_congr (Nat.zero_le _) fun i _ hi => by
    unfold look
    rw [pack_bat _ _ _ (by omega)]; simp
  have hp : prt st.length (pack r ((st.length + 63) / 64)) 0 0 = 0 := prt_ok h.chk0 (by omega)
  unfold nextV nextE
  simp only [Int.toNat_natCast, hp, Int.toNat_zero, e]
  simp
end Go.Proofs.YtpaecmpiokkdnaaDoor

namespace Go.Proofs.YtpaecmpiokkdnaaDoor
open Go.RowKit Go.Sort Go.Joins
attribute [local go_sem] cell_grow frozen_grow size_grow

def slotI (h : Int) : Int := if h < 65536 ∨ 4294967296 ≤ h then -1 else h % 65536
def numI (h : Int) : Int := if h < 65536 ∨ 4294967296 ≤ h then 0 else h / 65536
theorem and_65535 (h : Int) (h0 : 0 ≤ h) (h1 : h < 4294967296) : bits BinOp.and IntKind.i64 h 65535 = h % 65536 :=
  bits_mask .i64 63 (by decide) (fun n h0 h1 => IntWalk.i64_in n (by omega)) 16 (by decide) h h0 (by omega)

theorem slot_ok (h : Int) (w : World) :
    Calls Tryd.prog 11 #[.int .i64 h] w fun e w' => e = .returned (.tuple #[.int .i64 (slotI h), .int .i64 (numI h)]) ∧ w = w' := by
  by_cases h1 : h < 65536
  · have R1 := Lib.hid (show slotI h = -1 from if_pos (.inl h1))
    have R2 := Lib.hid (show numI h = 0 from if_pos (.inl h1))
    go_enter Tryd.func11, Tryd.ntmps11
    go_wp2
    go_ret2
    exact ⟨ret_two R1.out.symm R2.out.symm, rfl⟩
  by_cases h2 : 4294967296 ≤ h
  · have R1 := Lib.hid (show slotI h = -1 from if_pos (.inr h2))
    have R2 := Lib.hid (show numI h = 0 from if_pos (.inr h2))
    go_enter Tryd.func11, Tryd.ntmps11
    go_wp2
    go_ret2
    exact ⟨ret_two R1.out.symm R2.out.symm, rfl⟩
  · have R1 := Lib.hid (show slotI h = h % 65536 from if_neg (by omega))
    have R2 := Lib.hid (show numI h = h / 65536 from if_neg (by omega))
    have hb := Lib.hid (and_65535 h (by omega) (by omega))
    have g1 : 65536 ≤ h := by omega
    have g2 : h < 4294967296 := by omega
    clear h1 h2
    go_enter Tryd.func11, Tryd.ntmps11
    go_wp2
    go_ret2
    exact ⟨ret_two (hb.out.trans R1.out.symm) R2.out.symm, rfl⟩

theorem rslot_ok (h : Int) (w : World) :
    Calls Tryd.prog 12 #[.int .i64 h] w fun e w' => e = .returned (.tuple #[.int .i64 (slotI h), .int .i64 (numI h)]) ∧ w = w' := by
  by_cases h1 : h < 65536
  · have R1 := Lib.hid (show slotI h = -1 from if_pos (.inl h1))
    have R2 := Lib.hid (show numI h = 0 from if_pos (.inl h1))
    go_enter Tryd.func12, Tryd.ntmps12
    go_wp2
    go_ret2
    exact ⟨ret_two R1.out.symm R2.out.symm, rfl⟩
  by_cases h2 : 4294967296 ≤ h
  · have R1 := Lib.hid (show slotI h = -1 from if_pos (.inr h2))
    have R2 := Lib.hid (show numI h = 0 from if_pos (.inr h2))
    go_enter Tryd.func12, Tryd.ntmps12
    go_wp2
    go_ret2
    exact ⟨ret_two R1.out.symm R2.out.symm, rfl⟩
  · have R1 := Lib.hid (show slotI h = h % 65536 from if_neg (by omega))
    have R2 := Lib.hid (show numI h = h / 65536 from if_neg (by omega))
    have g1 : 65536 ≤ h := by omega
    have g2 : h < 4294967296 := by omega
    clear h1 h2
    go_enter Tryd.func12, Tryd.ntmps12
    go_wp2
    go_ret2
    exact ⟨ret_two R1.out.symm R2.out.symm, rfl⟩
end Go.Proofs.YtpaecmpiokkdnaaDoor

namespace Go.Proofs.YtpaecmpiokkdnaaDoor
open Go.RowKit Go.Sort Go.Joins

/-- the slot of a handle -/
def atH (st : List Slt) (h : Int) : Slt := st.getD (slotI h).toNat (0, false, undef)
def findE (st : List Slt) (h : Int) : Int :=
  if slotI h < 0 ∨ (st.length : Int) ≤ slotI h ∨ ((atH st h).1 : Int) < numI h then 4
  else if numI h < ((atH st h).1 : Int) ∨ (atH st h).2.1 = false then 160 else 0
def findP (q : Nat) (st : List Slt) (h : Int) : Option Addr := if findE st h = 0 then some ⟨q, (slotI h).toNat * 3, none⟩ else none
theorem ret_ptr {a b : Option Addr} {c d : Int} (h : a = b ∧ c = d) : Ending.returned (.tuple #[.pointer a, .int .i64 c]) = .returned (.tuple #[.pointer b, .int .i64 d]) := by rw [h.1, h.2]
section
variable {q : Nat} {st : List Slt} {h : Int}
theorem find_none (hh : slotI h < 0 ∨ (st.length : Int) ≤ slotI h ∨ ((atH st h).1 : Int) < numI h) : none = findP q st h ∧ 4 = findE st h := by
  have e : findE st h = 4 := if_pos hh
  unfold findP
  rw [e]
  exact ⟨rfl, rfl⟩
theorem atH_eq {i : Nat} (hi : slotI h = i) : atH st h = st.getD i (0, false, undef) := by unfold atH; rw [hi]; rfl
theorem find_far {i : Nat} (hi : slotI h = i) (_hlt : i < st.length) (h3 : ((st.getD i (0, false, undef)).1 : Int) < numI h) : none = findP q st h ∧ 4 = findE st h :=
  find_none (.inr (.inr (by rw [atH_eq hi]; exact h3)))
theorem find_old {i : Nat} (hi : slotI h = i) (hlt : i < st.length) (h3 : ¬ ((st.getD i (0, false, undef)).1 : Int) < numI h) (h4 : numI h < ((st.getD i (0, false, undef)).1 : Int) ∨ (st.getD i (0, false, undef)).2.1 = false) : none = findP q st h ∧ 160 = findE st h := by
  have e : findE st h = 160 := by
    unfold findE
    rw [atH_eq hi, if_neg (by rw [hi]; omega), if_pos h4]
  unfold findP
  rw [e]
  exact ⟨rfl, rfl⟩
theorem find_yes {i : Nat} (hi : slotI h = i) (hlt : i < st.length) (h3 : ¬ ((st.getD i (0, false, undef)).1 : Int) < numI h) (h4 : ¬ numI h < ((st.getD i (0, false, undef)).1 : Int)) (h5 : (st.getD i (0, false, undef)).2.1 = true) : some ⟨q, i * 3, none⟩ = findP q st h ∧ 0 = findE st h := by
  have e : findE st h = 0 := by
    unfold findE
    rw [atH_eq hi, if_neg (by rw [hi]; omega), if_neg (by rw [h5]; rintro (h | h); exact h4 h; cases h)]
  unfold findP
  rw [e, hi]
  exact ⟨rfl, rfl⟩
end
end Go.Proofs.YtpaecmpiokkdnaaDoor
