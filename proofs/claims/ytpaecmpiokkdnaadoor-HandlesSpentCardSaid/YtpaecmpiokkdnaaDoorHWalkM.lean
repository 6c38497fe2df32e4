/- Handles: what lies in memory while HandlesWalks walks; plain facts of it. -/
import Derived.Test.YtpaecmpiokkdnaaDoorHAll
import Derived.Test.YtpaecmpiokkdnaaDoorHSetInt
import Derived.Test.YtpaecmpiokkdnaaDoorHAwake
namespace Go.Proofs.YtpaecmpiokkdnaaDoor
open Go.RowKit Go.Sort Go.Joins Go.Shelf
attribute [local go_sem] cell_grow frozen_grow size_grow

theorem own_stays' {W W' : World} {base : Nat} {e : TypeId} {size : Nat} {v : Value} {n : Nat} {xs : List Value} {row : Option Nat} (h : W.ownsRow base e size v n xs) (hg : W.grownBy W' row) (hr : ∀ r, row = some r → ∃ o : Obj, W.heap[r]? = some o ∧ o.isCells = false) : W'.ownsRow base e size v n xs := by
  refine h.kept hg ?_
  rcases h.2 with ⟨rfl, _⟩ | ⟨g, cap, cur, rfl, _, hgb, _⟩
  · exact .inl rfl
  · refine .inr fun hx => ?_
    obtain ⟨o, ho, hc⟩ := hr g hx.symm
    rw [hgb] at ho
    cases ho
    simp [Obj.isCells] at hc
theorem blk_kept {W W' : World} {row : Option Nat} {k : Nat} {cs : Array Value} {t : TypeId} (h : W.heap[k]? = some (.cells cs t (0, 0))) (hg : W.grownBy W' row) (hr : ∀ r, row = some r → ∃ o : Obj, W.heap[r]? = some o ∧ o.isCells = false) : W'.heap[k]? = some (.cells cs t (0, 0)) :=
  (grownBy_keeps_cells hg hr h rfl).trans h
section
variable {TBL SLOT : TypeId} {W W' : World} {B p q : Nat} {st : List Slt} {m : Nat} {r : Nat → Bool}
theorem Tb.set_other (h : Tb TBL SLOT W B p q st m r) {k j : Nat} {cs : Array Value} {t : TypeId} (hk : W.heap[k]? = some (.cells cs t (0, 0))) (ht : 144 ≠ t) (hp : p ≠ k) (hq : q ≠ k) (v : Value) : Tb TBL SLOT (W.setCell ⟨k, j, none⟩ v) B p q st m r := by
  obtain ⟨ra, rcap, h1, h2⟩ := h.tbl
  refine ⟨h.hp, h.hq, h.ne, h.n1, h.n2, ⟨ra, rcap, ?_, ?_⟩, ?_, h.rb⟩
  · rw [Below.heap_setCell _ _ _ _ hp]; exact h1
  · exact ownsRow_setCell_other h2 (a := ⟨k, j, none⟩) (own_ne h2 hk ht) v
  · rw [Below.heap_setCell _ _ _ _ hq]; exact h.slots
theorem Tb.kept (h : Tb TBL SLOT W B p q st m r) {row : Option Nat} (hg : W.grownBy W' row) (hr : ∀ r, row = some r → ∃ o : Obj, W.heap[r]? = some o ∧ o.isCells = false) : Tb TBL SLOT W' B p q st m r := by
  obtain ⟨ra, rcap, h1, h2⟩ := h.tbl
  exact ⟨h.hp, h.hq, h.ne, h.n1, h.n2, ⟨ra, rcap, blk_kept h1 hg hr, own_stays' h2 hg hr⟩, blk_kept h.slots hg hr, h.rb⟩
end
theorem KeepsFrom.of_fr {p q B : Nat} {W W' : World} (h : Fr p q W W') (hp : p < B) (hq : q < B) : KeepsFrom B W W' :=
  ⟨h.size, fun k o hk ho _ => (h.block k (Array.getElem?_eq_some_iff.1 ho).1 (by omega) (by omega)).trans ho⟩

/-- what lies in memory -/
structure WM (w W : World) (r0 r1 r2 r3 : Value) (M B p q : Nat) (st' : List Slt) (i d L : Int) : Prop where
  t : Int.TT W B p q st'
  b2 : W.heap[w.heap.size]? = some (.cells #[r0, r1, r2] 35 (0, 0))
  b3 : W.heap[w.heap.size + 1]? = some (.cells #[r3] 33 (0, 0))
  b4 : W.heap[w.heap.size + 1 + 1]? = some (.cells #[.bool false] 4 (0, 0))
  b5 : W.heap[M]? = some (.cells #[.pointer (some ⟨p, 0, none⟩)] 24 (0, 0))
  b7 : W.heap[M + 1]? = some (.cells #[.int .i64 i] 3 (0, 0))
  b8 : W.heap[M + 1 + 1]? = some (.cells #[.int .i64 d] 3 (0, 0))
  b9 : W.heap[M + 1 + 1 + 1]? = some (.cells #[.int .i64 L] 3 (0, 0))
  bt : W.heap[M + 1 + 1 + 1 + 1]? = some (.cells #[.pointer (some ⟨p, 0, none⟩)] 24 (0, 0))
  hp : w.heap.size + 3 ≤ p
  hq : w.heap.size + 3 ≤ q
  pM : p < M
  qM : q < M
  tab : Tab W
  tl : 0 < w.heap.size
  k : Below w.heap.size w W
section
variable {w W W' : World} {r0 r1 r2 r3 : Value} {M B p q : Nat} {st' st2 : List Slt} {i d L : Int}
theorem Tab.blk {k j : Nat} (h : Tab W) (hk : 0 ≠ k) (v : Value) : Tab (W.setCell ⟨k, j, none⟩ v) := fun x hx => by
  rw [World.cell?_of_block (w := W) (Below.heap_setCell _ _ _ _ hk)]
  exact h x hx
theorem WM.set7 (h : WM w W r0 r1 r2 r3 M B p q st' i d L) (i' : Int) : WM w (W.setCell ⟨M + 1, 0, none⟩ (.int .i64 i')) r0 r1 r2 r3 M B p q st' i' d L := by
  have h1 := h.hp; have h2 := h.hq; have h3 := h.pM; have h4 := h.qM; have h5 := h.tl
  have N : ∀ k, k ≠ M + 1 → (W.setCell ⟨M + 1, 0, none⟩ (.int .i64 i')).heap[k]? = W.heap[k]? := fun k hk => Below.heap_setCell _ _ _ _ hk
  exact ⟨Tb.set_other h.t h.b7 (by decide) (by omega) (by omega) _, (N _ (by omega)).trans h.b2, (N _ (by omega)).trans h.b3, (N _ (by omega)).trans h.b4, (N _ (by omega)).trans h.b5, by rw [setCell_block h.b7]; rfl, (N _ (by omega)).trans h.b8, (N _ (by omega)).trans h.b9, (N _ (by omega)).trans h.bt, h1, h2, h3, h4, h.tab.blk (by omega) _, h5, h.k.setCell (p := ⟨M + 1, 0, none⟩) (by dsimp only; omega) _⟩
theorem WM.set8 (h : WM w W r0 r1 r2 r3 M B p q st' i d L) (d' : Int) : WM w (W.setCell ⟨M + 1 + 1, 0, none⟩ (.int .i64 d')) r0 r1 r2 r3 M B p q st' i d' L := by
  have h1 := h.hp; have h2 := h.hq; have h3 := h.pM; have h4 := h.qM; have h5 := h.tl
  have N : ∀ k, k ≠ M + 1 + 1 → (W.setCell ⟨M + 1 + 1, 0, none⟩ (.int .i64 d')).heap[k]? = W.heap[k]? := fun k hk => Below.heap_setCell _ _ _ _ hk
  exact ⟨Tb.set_other h.t h.b8 (by decide) (by omega) (by omega) _, (N _ (by omega)).trans h.b2, (N _ (by omega)).trans h.b3, (N _ (by omega)).trans h.b4, (N _ (by omega)).trans h.b5, (N _ (by omega)).trans h.b7, by rw [setCell_block h.b8]; rfl, (N _ (by omega)).trans h.b9, (N _ (by omega)).trans h.bt, h1, h2, h3, h4, h.tab.blk (by omega) _, h5, h.k.setCell (p := ⟨M + 1 + 1, 0, none⟩) (by dsimp only; omega) _⟩
theorem WM.set9 (h : WM w W r0 r1 r2 r3 M B p q st' i d L) (L' : Int) : WM w (W.setCell ⟨M + 1 + 1 + 1, 0, none⟩ (.int .i64 L')) r0 r1 r2 r3 M B p q st' i d L' := by
  have h1 := h.hp; have h2 := h.hq; have h3 := h.pM; have h4 := h.qM; have h5 := h.tl
  have N : ∀ k, k ≠ M + 1 + 1 + 1 → (W.setCell ⟨M + 1 + 1 + 1, 0, none⟩ (.int .i64 L')).heap[k]? = W.heap[k]? := fun k hk => Below.heap_setCell _ _ _ _ hk
  exact ⟨Tb.set_other h.t h.b9 (by decide) (by omega) (by omega) _, (N _ (by omega)).trans h.b2, (N _ (by omega)).trans h.b3, (N _ (by omega)).trans h.b4, (N _ (by omega)).trans h.b5, (N _ (by omega)).trans h.b7, (N _ (by omega)).trans h.b8, by rw [setCell_block h.b9]; rfl, (N _ (by omega)).trans h.bt, h1, h2, h3, h4, h.tab.blk (by omega) _, h5, h.k.setCell (p := ⟨M + 1 + 1 + 1, 0, none⟩) (by dsimp only; omega) _⟩
theorem WM.drop (h : WM w W r0 r1 r2 r3 M B p q st' i d L) (ht : Int.TT W' B p q st2) (hf : Fr p q W W') : WM w W' r0 r1 r2 r3 M B p q st2 i d L := by
  have h1 := h.hp; have h2 := h.hq; have h3 := h.pM; have h4 := h.qM; have h5 := h.tl
  have N : ∀ {k : Nat} {o : Obj}, W.heap[k]? = some o → k ≠ p → k ≠ q → W'.heap[k]? = some o := fun ho hp hq => (hf.block _ (blk_lt ho) hp hq).trans ho
  exact ⟨ht, N h.b2 (by omega) (by omega), N h.b3 (by omega) (by omega), N h.b4 (by omega) (by omega), N h.b5 (by omega) (by omega), N h.b7 (by omega) (by omega), N h.b8 (by omega) (by omega), N h.b9 (by omega) (by omega), N h.bt (by omega) (by omega), h1, h2, h3, h4, h.tab.fr hf (by omega) (by omega), h5,
    Fr.below h.k hf (by omega) (by omega) h.k.size⟩
theorem WM.kept (h : WM w W r0 r1 r2 r3 M B p q st' i d L) {row : Option Nat} {Z : Nat} (hZ : w.heap.size ≤ Z) (hg : W.grownBy W' row) (hr : ∀ r, row = some r → Z ≤ r ∧ ∃ o : Obj, W.heap[r]? = some o ∧ o.isCells = false) : WM w W' r0 r1 r2 r3 M B p q st' i d L := by
  have hr2 := fun r e => (hr r e).2
  exact ⟨Tb.kept h.t hg hr2, blk_kept h.b2 hg hr2, blk_kept h.b3 hg hr2, blk_kept h.b4 hg hr2, blk_kept h.b5 hg hr2, blk_kept h.b7 hg hr2, blk_kept h.b8 hg hr2, blk_kept h.b9 hg hr2, blk_kept h.bt hg hr2, h.hp, h.hq, h.pM, h.qM, fun x hx => cell_kept (h.tab x hx) hg hr2, h.tl,
    h.k.grown hg h.k.size (fun r e => by have := (hr r e).1; omega)⟩
theorem WM.below (h : WM w W r0 r1 r2 r3 M B p q st' i d L) (hb : Below W.heap.size W W') : WM w W' r0 r1 r2 r3 M B p q st' i d L := by
  have N : ∀ {k : Nat} {o : Obj}, W.heap[k]? = some o → W'.heap[k]? = some o := fun ho => (hb.block _ (blk_lt ho)).trans ho
  exact ⟨Tb.below h.t hb, N h.b2, N h.b3, N h.b4, N h.b5, N h.b7, N h.b8, N h.b9, N h.bt, h.hp, h.hq, h.pM, h.qM, h.tab.below hb, h.tl, h.k.trans (hb.mono h.k.size)⟩
end
/-- what is known of the slots -/
structure WP (st : List Slt) (pre : List Nat) (st' : List Slt) (d : Nat) (L : Int) : Prop where
  len : st'.length = st.length
  same : ∀ j, j ∉ pre → st'.getD j (0, false, undef) = st.getD j (0, false, undef)
  cnt : st'.countP alv + d = st.countP alv
  lst : ∀ j : Nat, (∀ i ∈ pre, i < j) → L < (j : Int)
theorem WP.start (st : List Slt) : WP st [] st 0 (-1) := ⟨rfl, fun _ _ => rfl, rfl, fun j _ => by omega⟩
theorem WP.keep {st : List Slt} {pre : List Nat} {st' : List Slt} {d : Nat} {L : Int} {x : Nat} (h : WP st pre st' d L) : WP st (pre ++ [x]) st' d (x : Int) :=
  ⟨h.len, fun j hj => h.same j (fun hm => hj (by simp [hm])), h.cnt, fun j hj => by have := hj x (by simp); omega⟩
theorem WP.drop {st : List Slt} {pre : List Nat} {st' : List Slt} {d : Nat} {L : Int} {x : Nat} (h : WP st pre st' d L) (hx : x < st'.length) (hal : (st'.getD x (0, false, undef)).2.1 = true) (g : Nat) (z : Value) : WP st (pre ++ [x]) (st'.set x (g, false, z)) (d + 1) (x : Int) := by
  refine ⟨by simpa using h.len, fun j hj => ?_, ?_, fun j hj => by have := hj x (by simp); omega⟩
  · have hne : x ≠ j := fun e => hj (by simp [e])
    rw [List.getD_eq_getElem?_getD, List.getElem?_set_ne hne, ← List.getD_eq_getElem?_getD]
    exact h.same j (fun hm => hj (by simp [hm]))
  · have := Int.countP_at hx (g, false, z)
    rw [hal] at this
    simp only [Bool.false_eq_true, ↓reduceIte] at this
    have := h.cnt
    omega
theorem hnd_slot {g x : Nat} (h1 : 1 ≤ g) (h2 : g ≤ 65535) (h3 : x < 65536) : slotI ((g : Int) * 65536 + x) = x ∧ numI ((g : Int) * 65536 + x) = g := by
  unfold slotI numI
  rw [if_neg (by omega), if_neg (by omega)]
  omega
theorem find_hnd {st' : List Slt} {x g : Nat} {v : Value} (hx : x < st'.length) (hs : st'.getD x (0, false, undef) = (g, true, v)) (h1 : 1 ≤ g) (h2 : g ≤ 65535) (h3 : x < 65536) : findE st' ((g : Int) * 65536 + x) = 0 := by
  obtain ⟨e1, e2⟩ := hnd_slot h1 h2 h3
  exact (find_yes (q := 0) e1 hx (by rw [hs, e2]; simp) (by rw [hs, e2]; simp) (by rw [hs])).2.symm
end Go.Proofs.YtpaecmpiokkdnaaDoor
