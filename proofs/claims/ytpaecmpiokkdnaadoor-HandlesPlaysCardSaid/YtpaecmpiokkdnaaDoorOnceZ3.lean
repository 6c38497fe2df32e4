/- Handles: awake returns true. | Handles: what lies in memory while HandlesWalks walks; plain facts of it. | Regions that draw their order: an invariant of what is done; chains of operations that end with an append. No program. | Regions that draw their order inside a fence: an invariant of what is done; append at a step. No program. | Handles: walked of the laws: the handles that are alive, and their values. | Handles: HandlesSpent returns true. | Handles: HandlesOnce, plain: what is known of handles. -/
import Derived.Test.YtpaecmpiokkdnaaDoorOnceZ2
import Derived.Test.YtpaecmpiokkdnaaDoorOnceZ1
import Derived.Deep.AppendLies
import Derived.Deep.RegionLawGrows
import Derived.OwnWalkIn
import Derived.OrdersIn
import Derived.RegionTactic
namespace Go.Proofs.YtpaecmpiokkdnaaDoor
open Go.RowKit Go.Sort Go.Joins
attribute [local go_sem] cell_grow frozen_grow size_grow

theorem Tab.fr {p q : Nat} {w w' : World} (h : Tab w) (k : Fr p q w w') (hp : 0 ≠ p) (hq : 0 ≠ q) : Tab w' := fun i hi => by
  have h0 := World.block_lt_of_cell? _ _ (h i hi)
  rw [World.cell?_of_block (w := w) (k.block 0 h0 hp hq)]
  exact h i hi
theorem Tab.lt {w : World} (h : Tab w) : 0 < w.heap.size := World.block_lt_of_cell? _ _ (h 0 (by decide))

abbrev Z0 : Value := .string ⟨#[]⟩
abbrev SA : Value := .string ⟨#[97]⟩
abbrev SB : Value := .string ⟨#[98]⟩
abbrev SC : Value := .string ⟨#[99]⟩
def aw0 : List Slt := [(0, false, Z0), (0, false, Z0)]
def aw1 : List Slt := [(1, true, SA), (0, false, Z0)]
def aw2 : List Slt := [(1, true, SA), (1, true, SB)]
def aw3 : List Slt := [(1, false, Z0), (1, true, SB)]
def aw4 : List Slt := [(2, true, SC), (1, true, SB)]
def ar0 : Nat → Bool := fun i => decide (i < 2)
def ar1 : Nat → Bool := filled ar0 0 1 false
def ar2 : Nat → Bool := filled ar1 1 2 false
def ar3 : Nat → Bool := filled ar2 0 1 (rdy (1, false, Z0))
def ar4 : Nat → Bool := filled ar3 0 1 false
theorem slot_65536 : slotI 65536 = 0 := by decide
theorem num_65536 : numI 65536 = 1 := by decide

section
variable {B p q : Nat} {w : World}
abbrev TS (w : World) (B p q : Nat) (st : List Slt) (m : Nat) (r : Nat → Bool) : Prop := Tb 114 117 w B p q st m r
theorem aput1 (h : TS w B p q aw0 0 ar0) (hT : Tab w) : Calls Tryd.prog 30 #[.pointer (some ⟨p, 0, none⟩), SA] w fun e w' => e = .returned (.tuple #[.int .i64 65536, .int .i64 0]) ∧ TS w' B p q aw1 1 ar1 ∧ Fr p q w w' :=
  (Str.put_ok 0 0 ⟨#[97]⟩ w h hT (by decide) (by decide) rfl (by decide) (by decide)).mono fun _ _ ⟨he, ht, hf⟩ => ⟨he.trans rfl, ht, hf⟩
theorem aput2 (h : TS w B p q aw1 1 ar1) (hT : Tab w) : Calls Tryd.prog 30 #[.pointer (some ⟨p, 0, none⟩), SB] w fun e w' => e = .returned (.tuple #[.int .i64 65537, .int .i64 0]) ∧ TS w' B p q aw2 2 ar2 ∧ Fr p q w w' :=
  (Str.put_ok 1 0 ⟨#[98]⟩ w h hT (by decide) (by decide) rfl (by decide) (by decide)).mono fun _ _ ⟨he, ht, hf⟩ => ⟨he.trans rfl, ht, hf⟩
theorem aput3 (h : TS w B p q aw2 2 ar2) (hT : Tab w) : Calls Tryd.prog 30 #[.pointer (some ⟨p, 0, none⟩), SC] w fun e w' => e = .returned (.tuple #[.int .i64 0, .int .i64 5]) ∧ Below w.heap.size w w' :=
  Str.put_full ⟨#[99]⟩ w h hT (by decide)
theorem afind2 : findE aw2 65536 = 0 := by
  unfold findE atH; rw [slot_65536, num_65536]; decide
theorem adrop (h : TS w B p q aw2 2 ar2) : Calls Tryd.prog 31 #[.pointer (some ⟨p, 0, none⟩), .int .i64 65536] w fun e w' => e = .returned (.tuple #[SA, .int .i64 0]) ∧ TS w' B p q aw3 1 ar3 ∧ Fr p q w w' :=
  (Str.drop_ok (m := 1) 65536 0 1 w h afind2 slot_65536 rfl (by decide)).mono fun _ _ ⟨he, ht, hf⟩ => ⟨he.trans rfl, ht, hf⟩
theorem aput4 (h : TS w B p q aw3 1 ar3) (hT : Tab w) : Calls Tryd.prog 30 #[.pointer (some ⟨p, 0, none⟩), SC] w fun e w' => e = .returned (.tuple #[.int .i64 131072, .int .i64 0]) ∧ TS w' B p q aw4 2 ar4 ∧ Fr p q w w' :=
  (Str.put_ok 0 1 ⟨#[99]⟩ w h hT (by decide) (by decide) rfl (by decide) (by decide)).mono fun _ _ ⟨he, ht, hf⟩ => ⟨he.trans rfl, ht, hf⟩
theorem afind4 : findE aw4 65536 = 160 := by
  unfold findE atH; rw [slot_65536, num_65536]; decide
theorem aget (h : TS w B p q aw4 2 ar4) : Calls Tryd.prog 32 #[.pointer (some ⟨p, 0, none⟩), .int .i64 65536] w fun e w' => e = .returned (.tuple #[Z0, .int .i64 160]) ∧ w = w' := by
  have := Str.get_err 65536 w h (by rw [afind4]; decide)
  rwa [afind4] at this
theorem anew (w : World) : Calls Tryd.prog 29 #[.int .i64 2] w fun e w' => e = .returned (.tuple #[.pointer (some ⟨w.heap.size + 1, 0, none⟩), .int .i64 0]) ∧ TS w' w.heap.size (w.heap.size + 1) w.heap.size aw0 0 ar0 ∧ Below w.heap.size w w' :=
  (Str.new_ok 2 w (by decide) (by decide)).mono fun _ _ h => h
end

set_option maxRecDepth 100000 in
set_option maxHeartbeats 1600000 in
theorem awake_ok (w : World) (hT : Tab w) :
    Calls Tryd.prog 15 #[] w fun e w' => e = .returned (.bool true) ∧ Below w.heap.size w w' := by
  have hTl := hT.lt
  have HT := Lib.hid hT
  have HTl := Lib.hid hTl
  clear hT hTl
  go_enter Tryd.func15, Tryd.ntmps15
  go_wp2_with fail
  refine (anew _).mono ?_
  rintro e w1 ⟨rfl, t1, b1⟩
  have HB1 := Lib.hid b1
  have X1 := Lib.hid (HT.out.below b1)
  have T1 := Lib.hid t1
  clear t1 b1
  go_wp2_with fail
  refine (aput1 T1.out X1.out).mono ?_
  rintro e w2 ⟨rfl, t2, f2⟩
  have X2 := Lib.hid (X1.out.fr f2 (by have := HTl.out; omega) (by have := HTl.out; omega))
  have T2 := Lib.hid t2
  have F2 := Lib.hid f2
  clear t2 f2
  go_wp2_with fail
  refine (aput2 T2.out X2.out).mono ?_
  rintro e w3 ⟨rfl, t3, f3⟩
  have X3 := Lib.hid (X2.out.fr f3 (by have := HTl.out; omega) (by have := HTl.out; omega))
  have T3 := Lib.hid t3
  have F3 := Lib.hid (F2.out.trans f3)
  clear t3 f3
  go_wp2_with fail
  refine (aput3 T3.out X3.out).mono ?_
  rintro e w4 ⟨rfl, b4⟩
  have X4 := Lib.hid (X3.out.below b4)
  have T4 := Lib.hid (T3.out.below b4)
  have F4 := Lib.hid (F3.out.trans (Fr.of_below b4))
  clear b4
  go_wp2_with fail
  refine (adrop T4.out).mono ?_
  rintro e w5 ⟨rfl, t5, f5⟩
  have X5 := Lib.hid (X4.out.fr f5 (by have := HTl.out; omega) (by have := HTl.out; omega))
  have T5 := Lib.hid t5
  have F5 := Lib.hid (F4.out.trans f5)
  clear t5 f5
  go_wp2_with fail
  refine (aput4 T5.out X5.out).mono ?_
  rintro e w6 ⟨rfl, t6, f6⟩
  have T6 := Lib.hid t6
  have F6 := Lib.hid (F5.out.trans f6)
  clear t6 f6
  go_wp2_with fail
  refine (aget T6.out).mono ?_
  rintro e w7 ⟨rfl, rfl⟩
  go_wp2
  go_ret
  exact ⟨rfl, Fr.below HB1.out F6.out (by omega) (Nat.le_refl _) HB1.out.size⟩
end Go.Proofs.YtpaecmpiokkdnaaDoor

namespace Go.Proofs.YtpaecmpiokkdnaaDoor
open Go.RowKit Go.Sort Go.Joins Go.Shelf
attribute [local go_sem] cell_grow frozen_grow size_grow

theorem own_stays' {W W' : World} {base : Nat} {e : TypeId} {size : Nat} {v : Value} {n : Nat} {xs : List Value} {row : Option Nat} (h : W.ownsRow base e size v n xs) (hg : W.grownBy W' row) (hr : ∀ r, row = some r → ∃ o : Obj, W.heap[r]? = some o ∧ o.isCells = false) : W'.ownsRow base e size v n xs := by
  refine h.kept hg ?_
  rcases h.2 with ⟨rfl, _⟩ | ⟨g, cap, cur, rfl, _, hgb, _⟩
  · exact .inl rfl
  · refine .inr fun hx => ?_
    obtain ⟨o, ho, hc⟩ := hr g hx.symm
    rw [hgb] at ho
    cases ho
    simp [Obj.isCells] at hc
theorem blk_kept {W W' : World} {row : Option Nat} {k : Nat} {cs : Array Value} {t : TypeId} (h : W.heap[k]? = some (.cells cs t (0, 0))) (hg : W.grownBy W' row) (hr : ∀ r, row = some r → ∃ o : Obj, W.heap[r]? = some o ∧ o.isCells = false) : W'.heap[k]? = some (.cells cs t (0, 0)) :=
  (grownBy_keeps_cells hg hr h rfl).trans h
section
variable {TBL SLOT : TypeId} {W W' : World} {B p q : Nat} {st : List Slt} {m : Nat} {r : Nat → Bool}
theorem Tb.set_other (h : Tb TBL SLOT W B p q st m r) {k j : Nat} {cs : Array Value} {t : TypeId} (hk : W.heap[k]? = some (.cells cs t (0, 0))) (ht : 144 ≠ t) (hp : p ≠ k) (hq : q ≠ k) (v : Value) : Tb TBL SLOT (W.setCell ⟨k, j, none⟩ v) B p q st m r := by
  obtain ⟨ra, rcap, h1, h2⟩ := h.tbl
  refine ⟨h.hp, h.hq, h.ne, h.n1, h.n2, ⟨ra, rcap, ?_, ?_⟩, ?_, h.rb⟩
  · rw [Below.heap_setCell _ _ _ _ hp]; exact h1
  · exact ownsRow_setCell_other h2 (a := ⟨k, j, none⟩) (own_ne h2 hk ht) v
  · rw [Below.heap_setCell _ _ _ _ hq]; exact h.slots
theorem Tb.kept (h : Tb TBL SLOT W B p q st m r) {row : Option Nat} (hg : W.grownBy W' row) (hr : ∀ r, row = some r → ∃ o : Obj, W.heap[r]? = some o ∧ o.isCells = false) : Tb TBL SLOT W' B p q st m r := by
  obtain ⟨ra, rcap, h1, h2⟩ := h.tbl
  exact ⟨h.hp, h.hq, h.ne, h.n1, h.n2, ⟨ra, rcap, blk_kept h1 hg hr, own_stays' h2 hg hr⟩, blk_kept h.slots hg hr, h.rb⟩
end
theorem KeepsFrom.of_fr {p q B : Nat} {W W' : World} (h : Fr p q W W') (hp : p < B) (hq : q < B) : KeepsFrom B W W' :=
  ⟨h.size, fun k o hk ho _ => (h.block k (Array.getElem?_eq_some_iff.1 ho).1 (by omega) (by omega)).trans ho⟩

/-- what lies in memory -/
structure WM (w W : World) (r0 r1 r2 r3 : Value) (M B p q : Nat) (st' : List Slt) (i d L : Int) : Prop where
  t : Int.TT W B p q st'
  b2 : W.heap[w.heap.size]? = some (.cells #[r0, r1, r2] 35 (0, 0))
  b3 : W.heap[w.heap.size + 1]? = some (.cells #[r3] 33 (0, 0))
  b4 : W.heap[w.heap.size + 1 + 1]? = some (.cells #[.bool false] 4 (0, 0))
  b5 : W.heap[M]? = some (.cells #[.pointer (some ⟨p, 0, none⟩)] 24 (0, 0))
  b7 : W.heap[M + 1]? = some (.cells #[.int .i64 i] 3 (0, 0))
  b8 : W.heap[M + 1 + 1]? = some (.cells #[.int .i64 d] 3 (0, 0))
  b9 : W.heap[M + 1 + 1 + 1]? = some (.cells #[.int .i64 L] 3 (0, 0))
  bt : W.heap[M + 1 + 1 + 1 + 1]? = some (.cells #[.pointer (some ⟨p, 0, none⟩)] 24 (0, 0))
  hp : w.heap.size + 3 ≤ p
  hq : w.heap.size + 3 ≤ q
  pM : p < M
  qM : q < M
  tab : Tab W
  tl : 0 < w.heap.size
  k : Below w.heap.size w W
section
variable {w W W' : World} {r0 r1 r2 r3 : Value} {M B p q : Nat} {st' st2 : List Slt} {i d L : Int}
theorem Tab.blk {k j : Nat} (h : Tab W) (hk : 0 ≠ k) (v : Value) : Tab (W.setCell ⟨k, j, none⟩ v) := fun x hx => by
  rw [World.cell?_of_block (w := W) (Below.heap_setCell _ _ _ _ hk)]
  exact h x hx
theorem WM.set7 (h : WM w W r0 r1 r2 r3 M B p q st' i d L) (i' : Int) : WM w (W.setCell ⟨M + 1, 0, none⟩ (.int .i64 i')) r0 r1 r2 r3 M B p q st' i' d L := by
  have h1 := h.hp; have h2 := h.hq; have h3 := h.pM; have h4 := h.qM; have h5 := h.tl
  have N : ∀ k, k ≠ M + 1 → (W.setCell ⟨M + 1, 0, none⟩ (.int .i64 i')).heap[k]? = W.heap[k]? := fun k hk => Below.heap_setCell _ _ _ _ hk
  exact ⟨Tb.set_other h.t h.b7 (by decide) (by omega) (by omega) _, (N _ (by omega)).trans h.b2, (N _ (by omega)).trans h.b3, (N _ (by omega)).trans h.b4, (N _ (by omega)).trans h.b5, by rw [setCell_block h.b7]; rfl, (N _ (by omega)).trans h.b8, (N _ (by omega)).trans h.b9, (N _ (by omega)).trans h.bt, h1, h2, h3, h4, h.tab.blk (by omega) _, h5, h.k.setCell (p := ⟨M + 1, 0, none⟩) (by dsimp only; omega) _⟩
theorem WM.set8 (h : WM w W r0 r1 r2 r3 M B p q st' i d L) (d' : Int) : WM w (W.setCell ⟨M + 1 + 1, 0, none⟩ (.int .i64 d')) r0 r1 r2 r3 M B p q st' i d' L := by
  have h1 := h.hp; have h2 := h.hq; have h3 := h.pM; have h4 := h.qM; have h5 := h.tl
  have N : ∀ k, k ≠ M + 1 + 1 → (W.setCell ⟨M + 1 + 1, 0, none⟩ (.int .i64 d')).heap[k]? = W.heap[k]? := fun k hk => Below.heap_setCell _ _ _ _ hk
  exact ⟨Tb.set_other h.t h.b8 (by decide) (by omega) (by omega) _, (N _ (by omega)).trans h.b2, (N _ (by omega)).trans h.b3, (N _ (by omega)).trans h.b4, (N _ (by omega)).trans h.b5, (N _ (by omega)).trans h.b7, by rw [setCell_block h.b8]; rfl, (N _ (by omega)).trans h.b9, (N _ (by omega)).trans h.bt, h1, h2, h3, h4, h.tab.blk (by omega) _, h5, h.k.setCell (p := ⟨M + 1 + 1, 0, none⟩) (by dsimp only; omega) _⟩
theorem WM.set9 (h : WM w W r0 r1 r2 r3 M B p q st' i d L) (L' : Int) : WM w (W.setCell ⟨M + 1 + 1 + 1, 0, none⟩ (.int .i64 L')) r0 r1 r2 r3 M B p q st' i d L' := by
  have h1 := h.hp; have h2 := h.hq; have h3 := h.pM; have h4 := h.qM; have h5 := h.tl
  have N : ∀ k, k ≠ M + 1 + 1 + 1 → (W.setCell ⟨M + 1 + 1 + 1, 0, none⟩ (.int .i64 L')).heap[k]? = W.heap[k]? := fun k hk => Below.heap_setCell _ _ _ _ hk
  exact ⟨Tb.set_other h.t h.b9 (by decide) (by omega) (by omega) _, (N _ (by omega)).trans h.b2, (N _ (by omega)).trans h.b3, (N _ (by omega)).trans h.b4, (N _ (by omega)).trans h.b5, (N _ (by omega)).trans h.b7, (N _ (by omega)).trans h.b8, by rw [setCell_block h.b9]; rfl, (N _ (by omega)).trans h.bt, h1, h2, h3, h4, h.tab.blk (by omega) _, h5, h.k.setCell (p := ⟨M + 1 + 1 + 1, 0, none⟩) (by dsimp only; omega) _⟩
theorem WM.drop (h : WM w W r0 r1 r2 r3 M B p q st' i d L) (ht : Int.TT W' B p q st2) (hf : Fr p q W W') : WM w W' r0 r1 r2 r3 M B p q st2 i d L := by
  have h1 := h.hp; have h2 := h.hq; have h3 := h.pM; have h4 := h.qM; have h5 := h.tl
  have N : ∀ {k : Nat} {o : Obj}, W.heap[k]? = some o → k ≠ p → k ≠ q → W'.heap[k]? = some o := fun ho hp hq => (hf.block _ (blk_lt ho) hp hq).trans ho
  exact ⟨ht, N h.b2 (by omega) (by omega), N h.b3 (by omega) (by omega), N h.b4 (by omega) (by omega), N h.b5 (by omega) (by omega), N h.b7 (by omega) (by omega), N h.b8 (by omega) (by omega), N h.b9 (by omega) (by omega), N h.bt (by omega) (by omega), h1, h2, h3, h4, h.tab.fr hf (by omega) (by omega), h5,
    Fr.below h.k hf (by omega) (by omega) h.k.size⟩
theorem WM.kept (h : WM w W r0 r1 r2 r3 M B p q st' i d L) {row : Option Nat} {Z : Nat} (hZ : w.heap.size ≤ Z) (hg : W.grownBy W' row) (hr : ∀ r, row = some r → Z ≤ r ∧ ∃ o : Obj, W.heap[r]? = some o ∧ o.isCells = false) : WM w W' r0 r1 r2 r3 M B p q st' i d L := by
  have hr2 := fun r e => (hr r e).2
  exact ⟨Tb.kept h.t hg hr2, blk_kept h.b2 hg hr2, blk_kept h.b3 hg hr2, blk_kept h.b4 hg hr2, blk_kept h.b5 hg hr2, blk_kept h.b7 hg hr2, blk_kept h.b8 hg hr2, blk_kept h.b9 hg hr2, blk_kept h.bt hg hr2, h.hp, h.hq, h.pM, h.qM, fun x hx => cell_kept (h.tab x hx) hg hr2, h.tl,
    h.k.grown hg h.k.size (fun r e => by have := (hr r e).1; omega)⟩
theorem WM.below (h : WM w W r0 r1 r2 r3 M B p q st' i d L) (hb : Below W.heap.size W W') : WM w W' r0 r1 r2 r3 M B p q st' i d L := by
  have N : ∀ {k : Nat} {o : Obj}, W.heap[k]? = some o → W'.heap[k]? = some o := fun ho => (hb.block _ (blk_lt ho)).trans ho
  exact ⟨Tb.below h.t hb, N h.b2, N h.b3, N h.b4, N h.b5, N h.b7, N h.b8, N h.b9, N h.bt, h.hp, h.hq, h.pM, h.qM, h.tab.below hb, h.tl, h.k.trans (hb.mono h.k.size)⟩
end
/-- what is known of the slots -/
structure WP (st : List Slt) (pre : List Nat) (st' : List Slt) (d : Nat) (L : Int) : Prop where
  len : st'.length = st.length
  same : ∀ j, j ∉ pre → st'.getD j (0, false, undef) = st.getD j (0, false, undef)
  cnt : st'.countP alv + d = st.countP alv
  lst : ∀ j : Nat, (∀ i ∈ pre, i < j) → L < (j : Int)
theorem WP.start (st : List Slt) : WP st [] st 0 (-1) := ⟨rfl, fun _ _ => rfl, rfl, fun j _ => by omega⟩
theorem WP.keep {st : List Slt} {pre : List Nat} {st' : List Slt} {d : Nat} {L : Int} {x : Nat} (h : WP st pre st' d L) : WP st (pre ++ [x]) st' d (x : Int) :=
  ⟨h.len, fun j hj => h.same j (fun hm => hj (by simp [hm])), h.cnt, fun j hj => by have := hj x (by simp); omega⟩
theorem WP.drop {st : List Slt} {pre : List Nat} {st' : List Slt} {d : Nat} {L : Int} {x : Nat} (h : WP st pre st' d L) (hx : x < st'.length) (hal : (st'.getD x (0, false, undef)).2.1 = true) (g : Nat) (z : Value) : WP st (pre ++ [x]) (st'.set x (g, false, z)) (d + 1) (x : Int) := by
  refine ⟨by simpa using h.len, fun j hj => ?_, ?_, fun j hj => by have := hj x (by simp); omega⟩
  · have hne : x ≠ j := fun e => hj (by simp [e])
    rw [List.getD_eq_getElem?_getD, List.getElem?_set_ne hne, ← List.getD_eq_getElem?_getD]
    exact h.same j (fun hm => hj (by simp [hm]))
  · have := Int.countP_at hx (g, false, z)
    rw [hal] at this
    simp only [Bool.false_eq_true, ↓reduceIte] at this
    have := h.cnt
    omega
theorem hnd_slot {g x : Nat} (h1 : 1 ≤ g) (h2 : g ≤ 65535) (h3 : x < 65536) : slotI ((g : Int) * 65536 + x) = x ∧ numI ((g : Int) * 65536 + x) = g := by
  unfold slotI numI
  rw [if_neg (by omega), if_neg (by omega)]
  omega
theorem find_hnd {st' : List Slt} {x g : Nat} {v : Value} (hx : x < st'.length) (hs : st'.getD x (0, false, undef) = (g, true, v)) (h1 : 1 ≤ g) (h2 : g ≤ 65535) (h3 : x < 65536) : findE st' ((g : Int) * 65536 + x) = 0 := by
  obtain ⟨e1, e2⟩ := hnd_slot h1 h2 h3
  exact (find_yes (q := 0) e1 hx (by rw [hs, e2]; simp) (by rw [hs, e2]; simp) (by rw [hs])).2.symm
end Go.Proofs.YtpaecmpiokkdnaaDoor

namespace Go.Proofs.YtpaecmpiokkdnaaDoor
open Go.RowKit Go.Sort Go.Joins

theorem countP_step {i : Nat} {p p' : Nat → Bool} (h1 : p i = true) (h2 : p' i = false) (h3 : ∀ j, j ≠ i → p' j = p j) : ∀ l : List Nat, l.Nodup → i ∈ l → l.countP p = l.countP p' + 1
  | [], _, h => by cases h
  | x :: l, hn, h => by
    rw [List.nodup_cons] at hn
    by_cases hx : x = i
    · subst hx
      have e : l.countP p' = l.countP p := List.countP_congr fun j hj => by rw [h3 j (fun e => hn.1 (e ▸ hj))]
      rw [List.countP_cons, List.countP_cons, h1, h2, e]; simp
    · have hi : i ∈ l := by
        rcases List.mem_cons.1 h with e | e
        · exact absurd e.symm hx
        · exact e
      rw [List.countP_cons, List.countP_cons, h3 x hx, countP_step h1 h2 h3 l hn.2 hi]; omega

/-- how many operations are open -/
def openOps (ops : Array Oper) (l : Array Bool) : Nat := (List.range ops.size).countP fun i => !l.getD i true
/-- does operation i wait for j? -/
def needs (ops : Array Oper) (i j : Nat) : Bool :=
  match ops[i]? with
  | some o => o.after.toList.any fun e => Region.binds .any e && e.on == j
  | none => false
/-- nothing waits for a later one -/
def inOrder (ops : Array Oper) : Bool := (List.range ops.size).all fun i => match ops[i]? with | some o => o.after.all fun e => decide (e.on < i) | none => true

section
variable {P : Program} {ops : Array Oper} {Q : Exit → Act → World → Prop} {l : Array Bool} {a : Act} {w : World}

theorem openOps_set {i : Nat} (hi : i < ops.size) (h : l.getD i true = false) : openOps ops l = openOps ops (l.setIfInBounds i true) + 1 := by
  have hlt : i < l.size := by
    rcases Nat.lt_or_ge i l.size with h' | h'
    · exact h'
    · simp [Array.getElem?_eq_none h'] at h
  refine countP_step (i := i) (by rw [h]; rfl) (by simp [hlt]) (fun j hj => ?_) _ List.nodup_range (List.mem_range.2 hi)
  rw [getD_set_ne true (Ne.symm hj)]
theorem openOps_pos {i : Nat} (hi : i < ops.size) (h : l.getD i true = false) : 0 < openOps ops l := by rw [openOps_set hi h]; omega
theorem inOrder_lt (h : inOrder ops = true) {i : Nat} {o : Oper} (ho : ops[i]? = some o) : ∀ e ∈ o.after, e.on < i := by
  intro e he
  have hi : i < ops.size := (Array.getElem?_eq_some_iff.1 ho).1
  have := List.all_eq_true.1 h i (List.mem_range.2 hi)
  rw [ho] at this
  have := Array.all_eq_true_iff_forall_mem.1 this e he
  simpa using this
theorem ready_some (h : inOrder ops = true) (hs : l.size = ops.size) : ∀ (n i : Nat), i ≤ n → i < ops.size → l.getD i true = false → Region.ready .any ops l ≠ []
  | n, i, hn, hi, ho => by
    by_cases hex : ∃ j, j < i ∧ l.getD j true = false
    · obtain ⟨j, hj, hjo⟩ := hex
      match n with
      | 0 => omega
      | n + 1 => exact ready_some h hs n j (by omega) (by omega) hjo
    · intro hr
      have hm : i ∈ Region.ready .any ops l := by
        rw [mem_ready]
        refine ⟨ho, _, Array.getElem?_eq_getElem hi, fun e he _ => ?_⟩
        have hlt := inOrder_lt h (Array.getElem?_eq_getElem hi) e he
        have hx : l.getD e.on true = true := by
          cases hb : l.getD e.on true with
          | true => rfl
          | false => exact absurd ⟨_, hlt, hb⟩ hex
        have hes : e.on < l.size := by omega
        simpa [Array.getD_eq_getD_getElem?, hes] using hx
      rw [hr] at hm; cases hm
theorem openOps_zero (h : 0 < openOps ops l) : ∃ i, i < ops.size ∧ l.getD i true = false := by
  unfold openOps at h
  obtain ⟨i, hi, hp⟩ := List.countP_pos_iff.1 h
  exact ⟨i, List.mem_range.1 hi, by simpa using hp⟩
theorem needs_ready {i j : Nat} (hi : i ∈ Region.ready .any ops l) (h : needs ops i j = true) : l.getD j false = true := by
  obtain ⟨_, o, ho, hall⟩ := mem_ready.1 hi
  unfold needs at h
  rw [ho] at h
  obtain ⟨e, he, hb⟩ := List.any_eq_true.1 h
  rw [Bool.and_eq_true, beq_iff_eq] at hb
  rw [← hb.2]
  exact hall e (Array.mem_toList_iff.1 he) hb.1
theorem ready_open {i : Nat} (hi : i ∈ Region.ready .any ops l) : l.getD i true = false ∧ i < ops.size := by
  obtain ⟨h, o, ho, _⟩ := mem_ready.1 hi
  exact ⟨h, (Array.getElem?_eq_some_iff.1 ho).1⟩

/-- what is done keeps an invariant, whichever comes next; or the rest is known -/
theorem wpAny_inv (INV : Array Bool → Act → World → Prop) (hacyc : inOrder ops = true) (hsz : ∀ l a w, INV l a w → l.size = ops.size)
    (H : ∀ l a w, INV l a w → wpAny P .any ops Q (openOps ops l) l a w ∨ (0 < openOps ops l ∧ ∀ i ∈ Region.ready .any ops l, wpOp P ops Q i (fun a' w' => INV (l.setIfInBounds i true) a' w') a w)) :
    ∀ (n : Nat) (l : Array Bool) (a : Act) (w : World), openOps ops l = n → INV l a w → wpAny P .any ops Q n l a w
  | 0, l, a, w, hn, h => by
    rcases H l a w h with h1 | ⟨h1, _⟩
    · rwa [hn] at h1
    · omega
  | n + 1, l, a, w, hn, h => by
    rcases H l a w h with h1 | ⟨h1, h2⟩
    · rwa [hn] at h1
    · obtain ⟨i, hi, ho⟩ := openOps_zero h1
      refine ⟨fun hr => absurd hr (ready_some hacyc (hsz l a w h) i i (Nat.le_refl _) hi ho), fun j hj => ?_⟩
      obtain ⟨o1, o2⟩ := ready_open hj
      exact wpOp_mono (fun a' w' h' => wpAny_inv INV hacyc hsz H n _ a' w' (by have := openOps_set o2 o1; omega) h') (h2 j hj)
theorem wpAny_fuel (n : Nat) (h : openOps ops l = n) (hw : wpAny P .any ops Q n l a w) : wpAny P .any ops Q (openOps ops l) l a w := h ▸ hw
theorem put_self (a : Act) (t : Tmp) : a.put (some t) (a.tmps[t]?.getD undef) = a := by
  cases a with
  | mk tmps defers =>
    simp only [Act.put, Act.mk.injEq, and_true]
    apply Array.ext_getElem?
    intro j
    rw [Array.getElem?_setIfInBounds]
    by_cases hj : t = j
    · subst hj
      by_cases hlt : t < tmps.size
      · simp [hlt]
      · simp [hlt]
    · simp [hj]
theorem wpAny_takeD {md : Region.Mode} (i : Nat) (d : Tmp) (v : Value) {oi : Oper} {fuel : Nat} {listed : Array Bool} (hi : ops[i]? = some oi) (hd : oi.dst = some d) (hs : Region.noSelect ops = true) (hf : Region.free md ops listed i = true) (hr : (Region.ready md ops listed).contains i = true)
    (hQ : ∀ c a w, Q (.panic c) (a.put (some d) v) w → Q (.panic c) a w) (hw : Region.wanted oi (yielded ops a.tmps) = true) (hy : ∀ w, (execOp a.eval oi).run P w = .ok (.value v) w)
    (h : wpAny P md ops Q fuel (listed.setIfInBounds i true) (a.put (some d) v) w) : wpAny P md ops Q (fuel + 1) listed a w :=
  wpAny_take hi hs hf hr (by rw [hd]; exact hQ) (.inl ⟨hw, hy⟩) (by rw [hd]; exact h)
/-- a name for the frame -/
theorem wpAny_named {n : Nat} (h : ∀ a0, a0 = a → wpAny P .any ops Q n l a0 w) : wpAny P .any ops Q n l a w := h a rfl
end

theorem wp_append_grows {P : Program} {o : Oper} {a : Act} {w : World} {K : Act → World → Prop} {Q : Exit → Act → World → Prop}
    (hg : o.guard = none) (s x : Operand) (t : TypeId) (hop : o.op = Op.call { callee := Callee.builtin Builtin.append, args := #[s, x], argTypes := #[t, t] })
    (e : TypeId) (i : TypeInfo) (z : Value) (size bytes : Nat) (h1 : P.underlying t = some (.slice e)) (h2 : P.info? e = some i) (h3 : i.zero = some z) (h4 : i.size = size) (h5 : i.bytes = bytes) (h6 : z.cells.size = size) (h7 : 0 < size)
    (ao : Option Addr) (hs : a.eval s = .slice ao 0 0) (ad : Addr) (m c : Nat) (news : List Value) (hx : a.eval x = .slice (some ad) m c) (hn : news.length = m * size) (hc : ∀ j u, news[j]? = some u → w.cell? (ad.add j) = some u) (h1c : ∀ u ∈ news, u.oneCell' = true)
    (hm : 0 < m) (b1 : m ≤ maxLen) (b2 : m * bytes ≤ 140737488355328)
    (hK : ∀ v' w', w'.ownsRow w.heap.size e size v' m news → w.grownBy w' none → K (a.put o.dst v') w') : Oper.wp P o a w K Q := by
  have hw : Region.wanted o (yielded #[o] a.tmps) = true := by simp [Region.wanted, hg]
  have h := step_append_grows (P := P) (ops := #[o]) (E := True) (Q := Q) (K := K) hg s x t hop e i z size bytes h1 h2 h3 h4 h5 h6 h7 ao 0 0 [] hs (fun _ => ⟨rfl, rfl⟩) (by simp) (fun b _ j u h => by simp at h) ad m c news hx hn hc h1c (by omega) (by omega) (by rw [Nat.zero_add]; exact b2) (fun v' w' ho hg => hK v' w' (by simpa using ho) hg)
  rwa [if_pos hw] at h
theorem below_grown {w w' : World} (h : w.grownBy w' none) : Below w.heap.size w w' := (Below.refl _ _).grown h (Nat.le_refl _) (fun r e => by cases e)

/-- a chain: 'append(row, x)' -/
structure ChSpec where
  B : Nat
  e : TypeId
  t : TypeId
  row : Value
  n : Nat
  xs : List Value
  x : Value
  xc : List Value
/-- what of it is done: the row is read, the value is read, it lies in a slice of its own, it is appended -/
structure ChDyn where
  r : Bool
  y : Bool
  b : Bool
  a : Bool
  vr : Value
  vx : Value
  vb : Value
  va : Value
  u : List Nat

structure ChainAt (S : ChSpec) (d : ChDyn) (w : World) : Prop where
  row : d.r = true → d.vr = S.row
  val : d.y = true → d.vx = S.x
  own : d.a = false → w.ownsRow S.B S.e S.xc.length S.row S.n S.xs
  ob : ∀ g, S.row.ownBlock = some g → g ∈ d.u
  bd : d.b = true → d.y = true
  lit : d.b = true → d.a = false → ∃ g, d.vb = .slice (some ⟨g, 0, none⟩) 1 1 ∧ g ∈ d.u ∧ w.heap[g]? = some (.cells S.xc.toArray S.t (0, 0))
  done : d.a = true → d.r = true ∧ d.y = true ∧ d.b = true ∧ ∃ g cap, d.va = .slice (some ⟨g, 0, none⟩) (S.n + 1) cap ∧ g ∈ d.u ∧ w.ownsRow S.B S.e S.xc.length d.va (S.n + 1) (S.xs ++ S.xc)
  lt : ∀ g ∈ d.u, g < w.heap.size

theorem own_same {w w' : World} {base : Nat} {e : TypeId} {size : Nat} {v : Value} {n : Nat} {xs : List Value} (h : w.ownsRow base e size v n xs) (hb : ∀ g, v.ownBlock = some g → w'.heap[g]? = w.heap[g]?) : w'.ownsRow base e size v n xs := by
  refine ⟨h.1, ?_⟩
  rcases h.2 with hn | ⟨g, cap, cur, rfl, hbs, hgg, rest⟩
  · exact .inl hn
  · exact .inr ⟨g, cap, cur, rfl, hbs, by rw [hb g rfl]; exact hgg, rest⟩
theorem ChainAt.keep {S : ChSpec} {d : ChDyn} {w w' : World} (h : ChainAt S d w) (hs : w.heap.size ≤ w'.heap.size) (hb : ∀ g ∈ d.u, w'.heap[g]? = w.heap[g]?) : ChainAt S d w' := by
  refine ⟨h.row, h.val, fun ha => own_same (h.own ha) fun g hg => hb g (h.ob g hg), h.ob, h.bd, fun h1 h2 => ?_, fun ha => ?_, fun g hg => Nat.lt_of_lt_of_le (h.lt g hg) hs⟩
  · obtain ⟨g, e1, e2, e3⟩ := h.lit h1 h2
    exact ⟨g, e1, e2, by rw [hb g e2]; exact e3⟩
  · obtain ⟨e0, e1, e2, g, cap, e3, e4, e5⟩ := h.done ha
    refine ⟨e0, e1, e2, g, cap, e3, e4, own_same e5 fun k hk => ?_⟩
    rw [e3] at hk
    have : g = k := by simpa [Value.ownBlock] using hk
    exact hb k (this ▸ e4)

structure Chains (w0 : World) (L : List (ChSpec × ChDyn)) (w : World) : Prop where
  each : ∀ c ∈ L, ChainAt c.1 c.2 w
  apart : L.Pairwise fun c d => ∀ g ∈ c.2.u, g ∉ d.2.u
  os : w.os = w0.os
  tape : w.tape = w0.tape
  output : w.output = w0.output
  size : w0.heap.size ≤ w.heap.size
  block : ∀ k, k < w0.heap.size → (∀ c ∈ L, c.1.row.ownBlock ≠ some k) → w.heap[k]? = w0.heap[k]?

theorem grown_refl (w : World) (row : Option Nat) : w.grownBy w row := ⟨rfl, rfl, rfl, Nat.le_refl _, fun _ _ _ => rfl⟩

section
variable {w0 w w' : World} {S : ChSpec} {d d' : ChDyn} {pre post : List (ChSpec × ChDyn)}
theorem Chains.at_ (h : Chains w0 (pre ++ (S, d) :: post) w) : ChainAt S d w := h.each (S, d) (by simp)
theorem Chains.upd (h : Chains w0 (pre ++ (S, d) :: post) w) (hc : ChainAt S d' w') (hg : w.grownBy w' S.row.ownBlock) (hu : ∀ g ∈ d'.u, g ∈ d.u ∨ w.heap.size ≤ g) : Chains w0 (pre ++ (S, d') :: post) w' := by
  have hS := h.at_
  have hap := List.pairwise_append.1 h.apart
  have hcp := List.pairwise_cons.1 hap.2.1
  have far : ∀ c ∈ pre ++ post, ∀ g ∈ c.2.u, g < w.heap.size ∧ g ∉ d.u := by
    intro c hc g hg'
    refine ⟨(h.each c (by rcases List.mem_append.1 hc with h1 | h1 <;> simp [h1])).lt g hg', ?_⟩
    rcases List.mem_append.1 hc with h1 | h1
    · exact hap.2.2 c h1 (S, d) (by simp) g hg'
    · exact fun hd => hcp.1 c h1 g hd hg'
  have keepc : ∀ c ∈ pre ++ post, ChainAt c.1 c.2 w' := by
    intro c hc
    refine (h.each c (by rcases List.mem_append.1 hc with h1 | h1 <;> simp [h1])).keep hg.size fun g hg' => ?_
    obtain ⟨f1, f2⟩ := far c hc g hg'
    exact hg.block g f1 fun e => f2 (hS.ob g e.symm)
  refine ⟨fun c hc' => ?_, ?_, hg.os.trans h.os, hg.tape.trans h.tape, hg.output.trans h.output, Nat.le_trans h.size hg.size, fun k hk hn => ?_⟩
  · rcases List.mem_append.1 hc' with h1 | h1
    · exact keepc c (List.mem_append.2 (.inl h1))
    · rcases List.mem_cons.1 h1 with rfl | h2
      · exact hc
      · exact keepc c (List.mem_append.2 (.inr h2))
  · refine List.pairwise_append.2 ⟨hap.1, List.pairwise_cons.2 ⟨fun c hc' g hg' hgc => ?_, hcp.2⟩, fun c hc' x hx g hg' => ?_⟩
    · obtain ⟨f1, f2⟩ := far c (List.mem_append.2 (.inr hc')) g hgc
      rcases hu g hg' with e | e
      · exact f2 e
      · omega
    · rcases List.mem_cons.1 hx with rfl | h2
      · obtain ⟨f1, f2⟩ := far c (List.mem_append.2 (.inl hc')) g hg'
        intro hd
        rcases hu g hd with e | e
        · exact f2 e
        · omega
      · exact hap.2.2 c hc' x (by simp [h2]) g hg'
  · have hn0 : ∀ c ∈ pre ++ (S, d) :: post, c.1.row.ownBlock ≠ some k := by
      intro c hc'
      rcases List.mem_append.1 hc' with h1 | h1
      · exact hn c (List.mem_append.2 (.inl h1))
      · rcases List.mem_cons.1 h1 with rfl | h2
        · exact hn (S, d') (by simp)
        · exact hn c (by simp [h2])
    rw [← h.block k hk hn0]
    exact hg.block k (Nat.lt_of_lt_of_le hk h.size) fun e => hn (S, d') (by simp) e.symm
theorem Chains.r_ (h : Chains w0 (pre ++ (S, d) :: post) w) : Chains w0 (pre ++ (S, { d with r := true, vr := S.row }) :: post) w := by
  have hS := h.at_
  exact h.upd ⟨fun _ => rfl, hS.val, hS.own, hS.ob, hS.bd, hS.lit, fun ha => ⟨rfl, (hS.done ha).2⟩, hS.lt⟩ (grown_refl _ _) fun g hg => .inl hg
theorem Chains.y_ (h : Chains w0 (pre ++ (S, d) :: post) w) : Chains w0 (pre ++ (S, { d with y := true, vx := S.x }) :: post) w := by
  have hS := h.at_
  exact h.upd ⟨hS.row, fun _ => rfl, hS.own, hS.ob, fun _ => rfl, hS.lit, fun ha => ⟨(hS.done ha).1, rfl, (hS.done ha).2.2⟩, hS.lt⟩ (grown_refl _ _) fun g hg => .inl hg
theorem Chains.b_ (h : Chains w0 (pre ++ (S, d) :: post) w) (ha : d.a = false) (hy : d.y = true) {H : Nat} (hH : w.heap.size = H) : Chains w0 (pre ++ (S, { d with b := true, vb := .slice (some ⟨H, 0, none⟩) 1 1, u := H :: d.u }) :: post) (w.alloc (.cells S.xc.toArray S.t)) := by
  subst hH
  have hS := h.at_
  have hk : ChainAt S d (w.alloc (.cells S.xc.toArray S.t)) := hS.keep (by simp) fun g hg => Below.heap_alloc w _ g (hS.lt g hg)
  refine h.upd ⟨hk.row, hk.val, hk.own, fun g hg => List.mem_cons_of_mem _ (hk.ob g hg), fun _ => hy, fun _ _ => ⟨_, rfl, by simp, heap_alloc_new w _⟩, fun h1 => ?_, fun g hg => ?_⟩ (World.grownBy_alloc w _ _) fun g hg => ?_
  · rw [ha] at h1; cases h1
  · rcases List.mem_cons.1 hg with rfl | h1
    · simp
    · exact hk.lt g h1
  · rcases List.mem_cons.1 hg with rfl | h1
    · exact .inr (Nat.le_refl _)
    · exact .inl h1
theorem Chains.a_ (h : Chains w0 (pre ++ (S, d) :: post) w) (hr : d.r = true) (hb : d.b = true) {g cap : Nat}
    (own : w'.ownsRow S.B S.e S.xc.length (.slice (some ⟨g, 0, none⟩) (S.n + 1) cap) (S.n + 1) (S.xs ++ S.xc)) (hg : w.grownBy w' S.row.ownBlock) (hat : S.row.ownBlock = some g ∨ g = w.heap.size) (hlt : g < w'.heap.size) :
    Chains w0 (pre ++ (S, { d with a := true, va := .slice (some ⟨g, 0, none⟩) (S.n + 1) cap, u := g :: d.u }) :: post) w' := by
  have hS := h.at_
  refine h.upd ⟨hS.row, hS.val, fun h1 => (by cases h1), fun k hk => List.mem_cons_of_mem _ (hS.ob k hk), hS.bd, fun _ h1 => (by cases h1), fun _ => ⟨hr, hS.bd hb, hb, g, cap, rfl, by simp, own⟩, fun k hk => ?_⟩ hg fun k hk => ?_
  · rcases List.mem_cons.1 hk with rfl | h1
    · exact hlt
    · exact Nat.lt_of_lt_of_le (hS.lt k h1) hg.size
  · rcases List.mem_cons.1 hk with rfl | h1
    · rcases hat with e | e
      · exact .inl (hS.ob k e)
      · exact .inr (by omega)
    · exact .inl h1
end
section
variable {w0 w w' : World} {S : ChSpec} {r y b a : Bool} {vr vx vb va : Value} {u : List Nat} {L : List (ChSpec × ChDyn)}
theorem Chains.r0 (h : Chains w0 ((S, ⟨r, y, b, a, vr, vx, vb, va, u⟩) :: L) w) : Chains w0 ((S, ⟨true, y, b, a, S.row, vx, vb, va, u⟩) :: L) w := Chains.r_ (pre := []) (S := S) (d := ⟨r, y, b, a, vr, vx, vb, va, u⟩) (post := L) h
theorem Chains.y0 (h : Chains w0 ((S, ⟨r, y, b, a, vr, vx, vb, va, u⟩) :: L) w) : Chains w0 ((S, ⟨r, true, b, a, vr, S.x, vb, va, u⟩) :: L) w := Chains.y_ (pre := []) (S := S) (d := ⟨r, y, b, a, vr, vx, vb, va, u⟩) (post := L) h
theorem Chains.at0 (h : Chains w0 ((S, ⟨r, y, b, a, vr, vx, vb, va, u⟩) :: L) w) : ChainAt S ⟨r, y, b, a, vr, vx, vb, va, u⟩ w := Chains.at_ (pre := []) (S := S) (d := ⟨r, y, b, a, vr, vx, vb, va, u⟩) (post := L) h
theorem Chains.b0 (h : Chains w0 ((S, ⟨r, y, b, a, vr, vx, vb, va, u⟩) :: L) w) (ha : a = false) (hy : y = true) : Chains w0 ((S, ⟨r, y, true, a, vr, vx, .slice (some ⟨w.heap.size, 0, none⟩) 1 1, va, w.heap.size :: u⟩) :: L) (w.alloc (.cells S.xc.toArray S.t)) := Chains.b_ (pre := []) (S := S) (d := ⟨r, y, b, a, vr, vx, vb, va, u⟩) (post := L) h ha hy rfl
theorem Chains.a0 (h : Chains w0 ((S, ⟨r, y, b, a, vr, vx, vb, va, u⟩) :: L) w) (hr : r = true) (hb : b = true) {g cap : Nat} (own : w'.ownsRow S.B S.e S.xc.length (.slice (some ⟨g, 0, none⟩) (S.n + 1) cap) (S.n + 1) (S.xs ++ S.xc)) (hg : w.grownBy w' S.row.ownBlock) (hat : S.row.ownBlock = some g ∨ g = w.heap.size) (hlt : g < w'.heap.size) : Chains w0 ((S, ⟨r, y, b, true, vr, vx, vb, .slice (some ⟨g, 0, none⟩) (S.n + 1) cap, g :: u⟩) :: L) w' := Chains.a_ (pre := []) (S := S) (d := ⟨r, y, b, a, vr, vx, vb, va, u⟩) (post := L) h hr hb own hg hat hlt
theorem Chains.r1 {c0 : ChSpec × ChDyn} (h : Chains w0 (c0 :: (S, ⟨r, y, b, a, vr, vx, vb, va, u⟩) :: L) w) : Chains w0 (c0 :: (S, ⟨true, y, b, a, S.row, vx, vb, va, u⟩) :: L) w := Chains.r_ (pre := [c0]) (S := S) (d := ⟨r, y, b, a, vr, vx, vb, va, u⟩) (post := L) h
theorem Chains.y1 {c0 : ChSpec × ChDyn} (h : Chains w0 (c0 :: (S, ⟨r, y, b, a, vr, vx, vb, va, u⟩) :: L) w) : Chains w0 (c0 :: (S, ⟨r, true, b, a, vr, S.x, vb, va, u⟩) :: L) w := Chains.y_ (pre := [c0]) (S := S) (d := ⟨r, y, b, a, vr, vx, vb, va, u⟩) (post := L) h
theorem Chains.at1 {c0 : ChSpec × ChDyn} (h : Chains w0 (c0 :: (S, ⟨r, y, b, a, vr, vx, vb, va, u⟩) :: L) w) : ChainAt S ⟨r, y, b, a, vr, vx, vb, va, u⟩ w := Chains.at_ (pre := [c0]) (S := S) (d := ⟨r, y, b, a, vr, vx, vb, va, u⟩) (post := L) h
theorem Chains.b1 {c0 : ChSpec × ChDyn} (h : Chains w0 (c0 :: (S, ⟨r, y, b, a, vr, vx, vb, va, u⟩) :: L) w) (ha : a = false) (hy : y = true) : Chains w0 (c0 :: (S, ⟨r, y, true, a, vr, vx, .slice (some ⟨w.heap.size, 0, none⟩) 1 1, va, w.heap.size :: u⟩) :: L) (w.alloc (.cells S.xc.toArray S.t)) := Chains.b_ (pre := [c0]) (S := S) (d := ⟨r, y, b, a, vr, vx, vb, va, u⟩) (post := L) h ha hy rfl
theorem Chains.a1 {c0 : ChSpec × ChDyn} (h : Chains w0 (c0 :: (S, ⟨r, y, b, a, vr, vx, vb, va, u⟩) :: L) w) (hr : r = true) (hb : b = true) {g cap : Nat} (own : w'.ownsRow S.B S.e S.xc.length (.slice (some ⟨g, 0, none⟩) (S.n + 1) cap) (S.n + 1) (S.xs ++ S.xc)) (hg : w.grownBy w' S.row.ownBlock) (hat : S.row.ownBlock = some g ∨ g = w.heap.size) (hlt : g < w'.heap.size) : Chains w0 (c0 :: (S, ⟨r, y, b, true, vr, vx, vb, .slice (some ⟨g, 0, none⟩) (S.n + 1) cap, g :: u⟩) :: L) w' := Chains.a_ (pre := [c0]) (S := S) (d := ⟨r, y, b, a, vr, vx, vb, va, u⟩) (post := L) h hr hb own hg hat hlt
theorem Chains.r2 {c0 c1 : ChSpec × ChDyn} (h : Chains w0 (c0 :: c1 :: (S, ⟨r, y, b, a, vr, vx, vb, va, u⟩) :: L) w) : Chains w0 (c0 :: c1 :: (S, ⟨true, y, b, a, S.row, vx, vb, va, u⟩) :: L) w := Chains.r_ (pre := [c0, c1]) (S := S) (d := ⟨r, y, b, a, vr, vx, vb, va, u⟩) (post := L) h
theorem Chains.y2 {c0 c1 : ChSpec × ChDyn} (h : Chains w0 (c0 :: c1 :: (S, ⟨r, y, b, a, vr, vx, vb, va, u⟩) :: L) w) : Chains w0 (c0 :: c1 :: (S, ⟨r, true, b, a, vr, S.x, vb, va, u⟩) :: L) w := Chains.y_ (pre := [c0, c1]) (S := S) (d := ⟨r, y, b, a, vr, vx, vb, va, u⟩) (post := L) h
theorem Chains.at2 {c0 c1 : ChSpec × ChDyn} (h : Chains w0 (c0 :: c1 :: (S, ⟨r, y, b, a, vr, vx, vb, va, u⟩) :: L) w) : ChainAt S ⟨r, y, b, a, vr, vx, vb, va, u⟩ w := Chains.at_ (pre := [c0, c1]) (S := S) (d := ⟨r, y, b, a, vr, vx, vb, va, u⟩) (post := L) h
theorem Chains.b2 {c0 c1 : ChSpec × ChDyn} (h : Chains w0 (c0 :: c1 :: (S, ⟨r, y, b, a, vr, vx, vb, va, u⟩) :: L) w) (ha : a = false) (hy : y = true) : Chains w0 (c0 :: c1 :: (S, ⟨r, y, true, a, vr, vx, .slice (some ⟨w.heap.size, 0, none⟩) 1 1, va, w.heap.size :: u⟩) :: L) (w.alloc (.cells S.xc.toArray S.t)) := Chains.b_ (pre := [c0, c1]) (S := S) (d := ⟨r, y, b, a, vr, vx, vb, va, u⟩) (post := L) h ha hy rfl
theorem Chains.a2 {c0 c1 : ChSpec × ChDyn} (h : Chains w0 (c0 :: c1 :: (S, ⟨r, y, b, a, vr, vx, vb, va, u⟩) :: L) w) (hr : r = true) (hb : b = true) {g cap : Nat} (own : w'.ownsRow S.B S.e S.xc.length (.slice (some ⟨g, 0, none⟩) (S.n + 1) cap) (S.n + 1) (S.xs ++ S.xc)) (hg : w.grownBy w' S.row.ownBlock) (hat : S.row.ownBlock = some g ∨ g = w.heap.size) (hlt : g < w'.heap.size) : Chains w0 (c0 :: c1 :: (S, ⟨r, y, b, true, vr, vx, vb, .slice (some ⟨g, 0, none⟩) (S.n + 1) cap, g :: u⟩) :: L) w' := Chains.a_ (pre := [c0, c1]) (S := S) (d := ⟨r, y, b, a, vr, vx, vb, va, u⟩) (post := L) h hr hb own hg hat hlt
end
theorem Chains.nil (w : World) : Chains w [] w := ⟨fun _ h => by (cases h), List.Pairwise.nil, rfl, rfl, rfl, Nat.le_refl _, fun _ _ _ => rfl⟩
/-- a chain of which nothing is done -/
def ChDyn.new (S : ChSpec) (vr vx vb va : Value) : ChDyn := ⟨false, false, false, false, vr, vx, vb, va, S.row.ownBlock.toList⟩
theorem Chains.add {w : World} {L : List (ChSpec × ChDyn)} (h : Chains w L w) (S : ChSpec) (vr vx vb va : Value) (own : w.ownsRow S.B S.e S.xc.length S.row S.n S.xs) (hne : ∀ g, S.row.ownBlock = some g → ∀ c ∈ L, g ∉ c.2.u) :
    Chains w ((S, ChDyn.new S vr vx vb va) :: L) w := by
  have hu : ∀ g, g ∈ (ChDyn.new S vr vx vb va).u ↔ S.row.ownBlock = some g := fun g => by simp [ChDyn.new]
  refine ⟨fun c hc => ?_, List.pairwise_cons.2 ⟨fun c hc g hg => hne g ((hu g).1 hg) c hc, h.apart⟩, rfl, rfl, rfl, Nat.le_refl _, fun _ _ _ => rfl⟩
  rcases List.mem_cons.1 hc with rfl | h1
  · exact ⟨fun h1 => (by cases h1), fun h1 => (by cases h1), fun _ => own, fun g hg => (hu g).2 hg, fun h1 => (by cases h1), fun h1 => (by cases h1), fun h1 => (by cases h1), fun g hg => (own.lt g ((hu g).1 hg)).2⟩
  · exact h.each c h1
end Go.Proofs.YtpaecmpiokkdnaaDoor

namespace Go.Proofs.YtpaecmpiokkdnaaDoor
open Go.RowKit Go.Sort Go.Joins

section
variable {F : Fence} {m : Nat} {P : Program} {ops : Array Oper} {Q : Exit → Act → World → Prop} {l : Array Bool} {a : Act} {w : World}
theorem wpAnyIn_inv (INV : Array Bool → Act → World → Prop) (hacyc : inOrder ops = true) (hsz : ∀ l a w, INV l a w → l.size = ops.size)
    (H : ∀ l a w, INV l a w → wpAnyIn F m P .any ops Q (openOps ops l) l a w ∨ (0 < openOps ops l ∧ ∀ i ∈ Region.ready .any ops l, wpOpIn F m P ops Q i (fun a' w' => INV (l.setIfInBounds i true) a' w') a w)) :
    ∀ (n : Nat) (l : Array Bool) (a : Act) (w : World), openOps ops l = n → INV l a w → wpAnyIn F m P .any ops Q n l a w
  | 0, l, a, w, hn, h => by
    rcases H l a w h with h1 | ⟨h1, _⟩
    · rwa [hn] at h1
    · omega
  | n + 1, l, a, w, hn, h => by
    rcases H l a w h with h1 | ⟨h1, h2⟩
    · rwa [hn] at h1
    · obtain ⟨i, hi, ho⟩ := openOps_zero h1
      refine ⟨fun hr => absurd hr (ready_some hacyc (hsz l a w h) i i (Nat.le_refl _) hi ho), fun j hj => ?_⟩
      obtain ⟨o1, o2⟩ := ready_open hj
      exact wpOpIn_mono (fun a' w' h' => wpAnyIn_inv INV hacyc hsz H n _ a' w' (by have := openOps_set o2 o1; omega) h') (h2 j hj)
theorem wpAnyIn_fuel (n : Nat) (h : openOps ops l = n) (hw : wpAnyIn F m P .any ops Q n l a w) : wpAnyIn F m P .any ops Q (openOps ops l) l a w := h ▸ hw
theorem wpAnyIn_named {n : Nat} (h : ∀ a0, a0 = a → wpAnyIn F m P .any ops Q n l a0 w) : wpAnyIn F m P .any ops Q n l a w := h a rfl
theorem wpIn_append_lies {o : Oper} {K : Act → World → Prop} (w : World) (s x : Operand) (t : TypeId)
    (ho : o.op = .call { callee := .builtin .append, args := #[s, x], argTypes := #[t, t] })
    (base : Nat) (e : TypeId) (i : TypeInfo) (z : Value) (size bytes : Nat) (ht : P.underlying t = some (.slice e)) (hi : P.info? e = some i) (hz : i.zero = some z)
    (hsize : i.size = size) (hby : i.bytes = bytes) (hzs : z.cells.size = size) (hsz : 0 < size)
    (v : Value) (n : Nat) (xs : List Value) (hs : a.eval s = v) (hown : w.ownsRow base e size v n xs)
    (ad : Addr) (k c : Nat) (news : List Value) (hx : a.eval x = .slice (some ad) k c) (hl : news.length = k * size) (hnews : ∀ j u, news[j]? = some u → w.cell? (ad.add j) = some u) (h1 : ∀ u ∈ news, u.oneCell' = true)
    (hm : 0 < k) (h63 : n + k ≤ maxLen) (hbytes : (n + k) * bytes ≤ 140737488355328) (hbase : base ≤ w.heap.size) (H : Nat) (hH : w.heap.size = H)
    (h : ∀ g cap w', w'.ownsRow base e size (.slice (some ⟨g, 0, none⟩) (n + k) cap) (n + k) (xs ++ news) → w.grownBy w' v.ownBlock → (v.ownBlock = some g ∨ g = H) → g < w'.heap.size → K (a.put o.dst (.slice (some ⟨g, 0, none⟩) (n + k) cap)) w') : Oper.wpIn F m P o a w K Q := by
  obtain ⟨g, cap, w', hrun, r1, r2, r3, r4⟩ := run_append_lies (P := P) w t o.type base e i z size bytes ht hi hz hsize hby hzs hsz v n xs hown ad k c news hl hnews h1 hm h63 hbytes hbase H hH
  unfold Oper.wpIn
  refine ⟨?_, ?_⟩
  · simp [Oper.about, ho, resolve, Target.leads, Sem.run_pure]
  · rw [Oper.semAt_plain F _ _ (by rw [ho]; intro c hc'; cases hc')]
    simp [execOp, ho, resolve, invoke, builtin, hs, hx, hrun, Result.andThen]
    exact h g cap w' r1 r2 r3 r4
end
end Go.Proofs.YtpaecmpiokkdnaaDoor

namespace Go.Proofs.YtpaecmpiokkdnaaDoor
open Go.RowKit Go.Sort Go.Joins Go.Shelf
attribute [local go_sem] cell_grow frozen_grow size_grow Oper.semAt_some

def hndL (st : List Slt) (pre : List Nat) : List Value := pre.map fun i => .int .i64 (hndI st i)
def valL (st : List Slt) (pre : List Nat) : List Value := pre.map fun i => (st.getD i (0, false, undef)).2.2
theorem info_i64 : (Tryd.prog.info? 2).map (fun i => (i.zero, i.size, i.bytes)) = some (some (.int .i64 0), 1, 8) := by kernel_rfl
theorem info_int2 : (Tryd.prog.info? 3).map (fun i => (i.zero, i.size, i.bytes)) = some (some (.int .i64 0), 1, 8) := by kernel_rfl
theorem func_ne_nil' (fn : Fn) (fs cs : Array Value) (w : World) : (binOp .eql 45 (.func fn fs cs) .nilFunc).run Tryd.prog w = .ok (.bool false) w := by kernel_rfl
/-- a post that no panic meets -/
def noPanic' (Q : Exit → Act → World → Prop) : Exit → Act → World → Prop
  | .panic _, _, _ => False
  | .normal, a, w => Q .normal a w
  | .ret, a, w => Q .ret a w
  | .exit i, a, w => Q (.exit i) a w
  | .goto i, a, w => Q (.goto i) a w
  | .outgrown, a, w => Q .outgrown a w
theorem code_noPanic' {F : Fence} {n : Nat} {P : Program} {c : Code} {Q : Exit → Act → World → Prop} {a : Act} {w : World} (h : c.wpIn F n P (noPanic' Q) a w) : c.wpIn F n P Q a w :=
  wpIn_mono h fun e _ _ h => by cases e <;> first | exact h | exact h.elim
/-- what lies in memory -/
structure WD (w W : World) (B p q : Nat) (st : List Slt) (pre : List Nat) (r0 r1 : Value) : Prop where
  t : Int.TT W B p q st
  b4 : W.heap[w.heap.size]? = some (.cells #[r0] 51 (0, 0))
  b5 : W.heap[w.heap.size + 1]? = some (.cells #[r1] 32 (0, 0))
  bt : W.heap[w.heap.size + 1 + 1]? = some (.cells #[.pointer (some ⟨p, 0, none⟩)] 24 (0, 0))
  o0 : W.ownsRow w.heap.size 2 1 r0 pre.length (hndL st pre)
  o1 : W.ownsRow w.heap.size 3 1 r1 pre.length (valL st pre)
  n01 : ∀ g, r0.ownBlock = some g → r1.ownBlock ≠ some g
  k : Below w.heap.size w W
theorem WD.below {w W W' : World} {B p q : Nat} {st : List Slt} {pre : List Nat} {r0 r1 : Value} (h : WD w W B p q st pre r0 r1) (hb : Below W.heap.size W W') : WD w W' B p q st pre r0 r1 := by
  have N : ∀ {k : Nat} {o : Obj}, W.heap[k]? = some o → W'.heap[k]? = some o := fun ho => (hb.block _ (blk_lt ho)).trans ho
  exact ⟨Tb.below h.t hb, N h.b4, N h.b5, N h.bt, own_below h.o0 hb, own_below h.o1 hb, h.n01, h.k.trans (hb.mono h.k.size)⟩
theorem WD.drew {w W : World} {B p q : Nat} {st : List Slt} {pre : List Nat} {r0 r1 : Value} (h : WD w W B p q st pre r0 r1) : WD w W.drew B p q st pre r0 r1 := h.below (Below.refl _ _).drew
theorem WD.kept {w W W' : World} {B p q : Nat} {st : List Slt} {pre : List Nat} {r0 r1 : Value} (h : WD w W B p q st pre r0 r1) {row : Option Nat} {Z : Nat} (hZ : w.heap.size ≤ Z) (hg : W.grownBy W' row) (hr : ∀ r, row = some r → Z ≤ r ∧ ∃ o : Obj, W.heap[r]? = some o ∧ o.isCells = false) : WD w W' B p q st pre r0 r1 := by
  have hr2 := fun r e => (hr r e).2
  exact ⟨Tb.kept h.t hg hr2, blk_kept h.b4 hg hr2, blk_kept h.b5 hg hr2, blk_kept h.bt hg hr2, own_stays' h.o0 hg hr2, own_stays' h.o1 hg hr2, h.n01, h.k.grown hg h.k.size (fun r e => by have := (hr r e).1; omega)⟩
/-- a step that makes memory and turns the rows alone -/
theorem WD.next {w W wx : World} {B p q : Nat} {st : List Slt} {pre : List Nat} {r0 r1 : Value} (hD : WD w W B p q st pre r0 r1) {x N : Nat} {h z : Int} {t0 t1 : TypeId} {D0 D1 : ChDyn} {g0 g1 k0 k1 : Nat} (hN : pre.length = N) (hBw : p < w.heap.size ∧ q < w.heap.size) (hh : hndI st x = h) (hz : (st.getD x (0, false, undef)).2.2 = .int .i64 z)
    (HC : Chains W [(ChSpec.mk w.heap.size 2 t0 r0 N (hndL st pre) (.int .i64 h) [.int .i64 h], D0), (ChSpec.mk w.heap.size 3 t1 r1 N (valL st pre) (.int .i64 z) [.int .i64 z], D1)] wx)
    (own0 : wx.ownsRow w.heap.size 2 1 (.slice (some ⟨g0, 0, none⟩) (N + 1) k0) (N + 1) (hndL st pre ++ [.int .i64 h])) (own1 : wx.ownsRow w.heap.size 3 1 (.slice (some ⟨g1, 0, none⟩) (N + 1) k1) (N + 1) (valL st pre ++ [.int .i64 z]))
    (hu0 : g0 ∈ D0.u) (hu1 : g1 ∈ D1.u) :
    WD w ((wx.setCell ⟨w.heap.size, 0, none⟩ (.slice (some ⟨g0, 0, none⟩) (N + 1) k0)).setCell ⟨w.heap.size + 1, 0, none⟩ (.slice (some ⟨g1, 0, none⟩) (N + 1) k1)) B p q st (pre ++ [x]) (.slice (some ⟨g0, 0, none⟩) (N + 1) k0) (.slice (some ⟨g1, 0, none⟩) (N + 1) k1) := by
  have hap := HC.apart
  simp only [List.pairwise_cons, List.mem_cons, List.not_mem_nil, or_false, forall_eq] at hap
  have N1 : ∀ {k : Nat} {cs : Array Value} {t : TypeId}, W.heap[k]? = some (.cells cs t (0, 0)) → 2 ≠ t → 3 ≠ t → wx.heap[k]? = some (.cells cs t (0, 0)) := fun hk h1 h2 => (HC.block _ (blk_lt hk) (by
    intro c hc
    simp only [List.mem_cons, List.not_mem_nil, or_false] at hc
    rcases hc with rfl | rfl
    · exact own_ne hD.o0 hk h1
    · exact own_ne hD.o1 hk h2)).trans hk
  have x4 := N1 hD.b4 (by decide) (by decide)
  have x5 := N1 hD.b5 (by decide) (by decide)
  have xt := N1 hD.bt (by decide) (by decide)
  have y4 : (wx.setCell ⟨w.heap.size, 0, none⟩ (.slice (some ⟨g0, 0, none⟩) (N + 1) k0)).heap[w.heap.size + 1]? = some (.cells #[r1] 32 (0, 0)) := (Below.heap_setCell _ _ _ _ (by dsimp only; omega)).trans x5
  have a0 : (Value.slice (some ⟨g0, 0, none⟩) (N + 1) k0).ownBlock ≠ some w.heap.size := own_ne own0 x4 (by decide)
  have a1 : (Value.slice (some ⟨g0, 0, none⟩) (N + 1) k0).ownBlock ≠ some (w.heap.size + 1) := own_ne own0 x5 (by decide)
  have c0 : (Value.slice (some ⟨g1, 0, none⟩) (N + 1) k1).ownBlock ≠ some w.heap.size := own_ne own1 x4 (by decide)
  have c1 : (Value.slice (some ⟨g1, 0, none⟩) (N + 1) k1).ownBlock ≠ some (w.heap.size + 1) := own_ne own1 x5 (by decide)
  have htb : Int.TT wx B p q st := by
    have h := hD.t
    obtain ⟨ra, rcap, h1, h2⟩ := Tb.tbl h
    refine ⟨h.hp, h.hq, h.ne, h.n1, h.n2, ⟨ra, rcap, N1 h1 (by decide) (by decide), ?_⟩, N1 h.slots (by decide) (by decide), h.rb⟩
    refine ⟨h2.1, ?_⟩
    rcases h2.2 with h3 | ⟨g, cap, cur, e1, e2, e3, e4⟩
    · exact .inl h3
    · exact .inr ⟨g, cap, cur, e1, e2, N1 e3 (by decide) (by decide), e4⟩
  have hl : (pre ++ [x]).length = N + 1 := by simp [hN]
  have e0 : hndL st (pre ++ [x]) = hndL st pre ++ [.int .i64 h] := by simp [hndL, hh]
  have e1 : valL st (pre ++ [x]) = valL st pre ++ [.int .i64 z] := by simp only [valL, List.map_append, List.map_cons, List.map_nil, hz]
  have hwk : Below w.heap.size w wx := hD.k.trans ⟨HC.os, HC.tape, HC.output, HC.size, fun k hk => HC.block k (by have := hD.k.size; omega) (by
    intro c hc
    simp only [List.mem_cons, List.not_mem_nil, or_false] at hc
    rcases hc with rfl | rfl
    · exact fun e => by have := (hD.o0.lt k e).1; omega
    · exact fun e => by have := (hD.o1.lt k e).1; omega)⟩
  refine ⟨Tb.set_other (Tb.set_other htb x4 (by decide) (by omega) (by omega) _) y4 (by decide) (by omega) (by omega) _, ?_, ?_, ?_, ?_, ?_, ?_, ?_⟩
  · rw [Below.heap_setCell _ _ _ _ (by dsimp only; omega), setCell_block x4]; rfl
  · rw [setCell_block y4]; rfl
  · rw [Below.heap_setCell _ _ _ _ (by dsimp only; omega), Below.heap_setCell _ _ _ _ (by dsimp only; omega)]; exact xt
  · rw [hl, e0]; exact ownsRow_setCell_other (ownsRow_setCell_other own0 (a := ⟨w.heap.size, 0, none⟩) a0 _) (a := ⟨w.heap.size + 1, 0, none⟩) a1 _
  · rw [hl, e1]; exact ownsRow_setCell_other (ownsRow_setCell_other own1 (a := ⟨w.heap.size, 0, none⟩) c0 _) (a := ⟨w.heap.size + 1, 0, none⟩) c1 _
  · intro k h1 h2
    simp only [Value.ownBlock, Option.some.injEq] at h1 h2
    exact hap.1 g0 hu0 (by rw [h1, ← h2]; exact hu1)
  · exact (hwk.setCell (p := ⟨w.heap.size, 0, none⟩) (Nat.le_refl _) _).setCell (p := ⟨w.heap.size + 1, 0, none⟩) (by dsimp only; omega) _
theorem own_blk_cells {W : World} {base : Nat} {e : TypeId} {size : Nat} {v : Value} {n : Nat} {xs : List Value} (h : W.ownsRow base e size v n xs) {k : Nat} {o : Obj} (ho : W.heap[k]? = some o) (hc : o.isCells = false) : v.ownBlock ≠ some k := by
  intro e
  rcases h.2 with ⟨e1, _⟩ | ⟨g, _, _, e1, _, e2, _⟩
  · rw [e1] at e; simp [Value.ownBlock] at e
  · have : g = k := by rw [e1] at e; simpa [Value.ownBlock] using e
    subst this
    rw [e2] at ho
    cases ho
    simp [Obj.isCells] at hc
theorem WD.keeps {w W wx : World} {B p q : Nat} {st : List Slt} {pre : List Nat} {r0 r1 : Value} (hD : WD w W B p q st pre r0 r1) {N : Nat} {x0 x1 : Value} {c0 c1 : List Value} {xs0 xs1 : List Value} {t0 t1 : TypeId} {D0 D1 : ChDyn} {b0 b1 : Nat} {e0 e1 : TypeId}
    (HC : Chains W [(ChSpec.mk b0 e0 t0 r0 N xs0 x0 c0, D0), (ChSpec.mk b1 e1 t1 r1 N xs1 x1 c1, D1)] wx) (Z : Nat) : KeepsFrom Z W wx :=
  ⟨HC.size, fun k o _ ho hc => (HC.block k (blk_lt ho) (by
    intro c hcm
    simp only [List.mem_cons, List.not_mem_nil, or_false] at hcm
    rcases hcm with rfl | rfl
    · exact own_blk_cells hD.o0 ho hc
    · exact own_blk_cells hD.o1 ho hc)).trans ho⟩
section
set_option maxRecDepth 100000 in
set_option maxHeartbeats 6400000 in
theorem walked_ok {B p q : Nat} {st : List Slt} (w : World) (hT : Int.TT w B p q st) (hg : ∀ j, j < st.length → (st.getD j (0, false, undef)).1 ≤ 65535) (hv : ∀ j, j < st.length → ∃ z : Int, (st.getD j (0, false, undef)).2.2 = .int .i64 z) :
    Calls Tryd.prog 25 #[.pointer (some ⟨p, 0, none⟩)] w fun e w' => ∃ a0 k0 a1 k1, e = .returned (.tuple #[.slice a0 (alvL st st.length).length k0, .slice a1 (alvL st st.length).length k1]) ∧
      w'.ownsRow w.heap.size 2 1 (.slice a0 (alvL st st.length).length k0) (alvL st st.length).length (hndL st (alvL st st.length)) ∧ w'.ownsRow w.heap.size 3 1 (.slice a1 (alvL st st.length).length k1) (alvL st st.length).length (valL st (alvL st st.length)) ∧ Below w.heap.size w w' := by
  obtain ⟨i0, hi0, hz0, hs0, hb0⟩ := info_parts info_i64
  obtain ⟨i1, hi1, hz1, hs1, hb1⟩ := info_parts info_int2
  have hn2 := hT.n2
  have hql := blk_lt (Tb.slots hT)
  obtain ⟨_, _, hpb, _⟩ := Tb.tbl hT
  have hpl := blk_lt hpb
  clear hpb
  have HT := Lib.hid hT
  have HG := Lib.hid hg
  have HV := Lib.hid hv
  have hne := func_ne_nil'
  clear hT hg hv
  obtain ⟨NN, hNN⟩ : ∃ NN, (alvL st st.length).length = NN := ⟨_, rfl⟩
  rw [hNN]
  have HNA := Lib.hid hNN
  clear hNN
  refine (callsIn_wide (n := 4)).1 ?_
  refine callsIn_of_wp_marks Tryd.func25 rfl trivial ?_ rfl
  simp only [Tryd.ntmps25, List.size_toArray, List.length_cons, List.length_nil, Nat.reduceAdd, Nat.reduceSub, Array.replicate_succ, Array.replicate_zero, List.push_toArray, List.append_toArray, List.nil_append, List.cons_append]
  gi_wp2_with fail
  refine ⟨trivial, (callsIn_wide.2 (all_ok _ _)).mono ?_⟩
  rintro e w2 ⟨rfl, hw2⟩
  have hWD : WD w w2 B p q st [] (.slice none 0 0) (.slice none 0 0) := by
    have bw : Below w.heap.size w w2 := by
      rw [← hw2]
      exact (((Below.refl _ w).alloc (Nat.le_refl _) _).alloc (by simp) _).alloc (by simp; omega) _
    refine ⟨Tg.below HT.out bw, ?_, ?_, ?_, World.ownsRow_nil _ _ _ _, World.ownsRow_nil _ _ _ _, fun g h => by simp [Value.ownBlock] at h, bw⟩
    · rw [← hw2]; refine (Below.heap_alloc _ _ _ (by simp <;> omega)).trans ?_; refine (Below.heap_alloc _ _ _ (by simp <;> omega)).trans ?_; exact heap_alloc_new w _
    · rw [← hw2]; refine (Below.heap_alloc _ _ _ (by simp <;> omega)).trans ?_
      have := heap_alloc_new (w.alloc (.cells #[.slice none 0 0] 51)) (.cells #[.slice none 0 0] 32)
      rwa [World.size_alloc] at this
    · rw [← hw2]
      have := heap_alloc_new ((w.alloc (.cells #[.slice none 0 0] 51)).alloc (.cells #[.slice none 0 0] 32)) (.cells #[.pointer (some ⟨p, 0, none⟩)] 24)
      rwa [World.size_alloc, World.size_alloc] at this
  have hsz2 : w.heap.size + 3 ≤ w2.heap.size := by rw [← hw2]; simp
  have HWD0 := Lib.hid hWD
  clear hWD hw2
  gi_wp2
  refine wpIn_iter_moves rfl (by omega) (gf := 57) (lb := #[.pointer (some ⟨w.heap.size + 1 + 1, 0, none⟩)]) rfl trivial (enters_of Tryd.func57 (by kernel_rfl) rfl)
    (fun pre W => ∃ r0 r1, WD w W B p q st pre r0 r1)
    (all_seq _ B p q (w.heap.size + 1 + 1) st _ ?keep HG.out HV.out _) (fun _ => rfl) (fun _ _ _ => False) ?own (fun _ _ _ _ _ hs _ _ => hs) ?start
    (fun a x => { tmps := (((a.tmps.setIfInBounds 14 (.int .i64 (hndI st x))).setIfInBounds 15 ((st.getD x (0, false, undef)).2.2)).setIfInBounds 7 (.int .i64 (hndI st x))).setIfInBounds 8 ((st.getD x (0, false, undef)).2.2), defers := [] })
    ?assign ?body ?done (fun _ _ _ _ _ h _ => h.elim)
  case keep =>
    rintro pre W ⟨r0, r1, hD⟩
    exact ⟨st, hD.t, rfl, fun _ _ => rfl, by rw [cell_of_block hD.bt]; rfl⟩
  case own =>
    rintro pre X Y row ⟨r0, r1, hD⟩ hg hr
    exact ⟨r0, r1, hD.kept (by have := HWD0.out.k.size; omega) hg hr⟩
  case start => exact ⟨_, _, HWD0.out⟩
  case assign =>
    intro l x W K hK
    simp only [List.setIfInBounds_toArray, List.set_cons_zero, List.set_cons_succ] at hK
    gi_wp2
    exact hK
  case body =>
    rintro l pre x W hl ⟨r0, r1, hD⟩ ⟨hpre, hx, hal⟩
    obtain ⟨z, hz⟩ := HV.out x hx
    obtain ⟨h, hh⟩ : ∃ h, hndI st x = h := ⟨_, rfl⟩
    rw [hh, hz]
    obtain ⟨N, hN⟩ : ∃ N, pre.length = N := ⟨_, rfl⟩
    have hNx : N ≤ x := by rw [← hN, hpre]; exact Nat.le_trans (List.length_filter_le _ _) (by simp)
    have HNN := Lib.hid hN
    have HD := Lib.hid hD
    have HH := Lib.hid hh
    have HZ := Lib.hid hz
    have HPre := Lib.hid hpre
    clear hD hN hh hz hpre hal
    simp only [List.setIfInBounds_toArray, List.set_cons_zero, List.set_cons_succ]
    gi_wp2
    refine wpIn_region_any (by kernel_rfl) ?_
    change wpAnyIn _ _ _ _ _ _ _ _ _ (World.drew _)
    generalize hWd : World.drew _ = Wr
    have HWD := Lib.hid hWd
    clear hWd
    have HDd := Lib.hid (show WD w Wr B p q st pre r0 r1 from by rw [← HWD.out]; exact HD.out.drew)
    have HE0 : Hid (Wr.heap[w.heap.size]? = some (.cells #[r0] 51 (0, 0))) := Lib.hid HDd.out.b4
    have HE1 : Hid (Wr.heap[w.heap.size + 1]? = some (.cells #[r1] 32 (0, 0))) := Lib.hid HDd.out.b5
    have HO0 : Hid (Wr.ownsRow w.heap.size 2 1 r0 N (hndL st pre)) := Lib.hid (by rw [← HNN.out]; exact HDd.out.o0)
    have HO1 : Hid (Wr.ownsRow w.heap.size 3 1 r1 N (valL st pre)) := Lib.hid (by rw [← HNN.out]; exact HDd.out.o1)
    refine wpAnyIn_named (fun A0 hA0 => ?_)
    have HA0 := Lib.hid hA0
    clear hA0
    have HCELL : Hid (∀ (d0 d1 : ChDyn) (wx : World), Chains Wr [((ChSpec.mk w.heap.size 2 2 r0 N (hndL st pre) (.int .i64 h) [.int .i64 h]), d0), ((ChSpec.mk w.heap.size 3 3 r1 N (valL st pre) (.int .i64 z) [.int .i64 z]), d1)] wx → wx.heap[w.heap.size]? = some (.cells #[r0] 51 (0, 0)) ∧ wx.heap[w.heap.size + 1]? = some (.cells #[r1] 32 (0, 0))) := Lib.hid (by
      intro d0 d1 wx HC
      have hrow : ∀ k, k < Wr.heap.size → (((ChSpec.mk w.heap.size 2 2 r0 N (hndL st pre) (.int .i64 h) [.int .i64 h])).row.ownBlock ≠ some k ∧ ((ChSpec.mk w.heap.size 3 3 r1 N (valL st pre) (.int .i64 z) [.int .i64 z])).row.ownBlock ≠ some k) → wx.heap[k]? = Wr.heap[k]? := fun k hk hn => HC.block k hk (by
        intro c hc
        simp only [List.mem_cons, List.not_mem_nil, or_false] at hc
        rcases hc with rfl | rfl
        · exact hn.1
        · exact hn.2
      )
      refine ⟨(hrow _ (blk_lt HE0.out) ⟨own_ne HO0.out HE0.out (by decide), own_ne HO1.out HE0.out (by decide)⟩).trans HE0.out, (hrow _ (blk_lt HE1.out) ⟨own_ne HO0.out HE1.out (by decide), own_ne HO1.out HE1.out (by decide)⟩).trans HE1.out⟩
      )
    refine wpAnyIn_inv (fun l a wx => ∃ (d0 d1 : ChDyn), l = #[d0.r, d0.y, d0.b, d0.a, d1.r, d1.y, d1.b, d1.a, false, false] ∧ a = ((((((((A0.put (some 16) d0.vr).put (some 17) d0.vx).put (some 18) d0.vb).put (some 19) d0.va).put (some 20) d1.vr).put (some 21) d1.vx).put (some 22) d1.vb).put (some 23) d1.va) ∧ ((d1.a = true → d0.a = true)) ∧ Chains Wr [((ChSpec.mk w.heap.size 2 2 r0 N (hndL st pre) (.int .i64 h) [.int .i64 h]), d0), ((ChSpec.mk w.heap.size 3 3 r1 N (valL st pre) (.int .i64 z) [.int .i64 z]), d1)] wx) (by kernel_rfl) (by rintro l a wx ⟨_, _, rfl, _, _⟩; rfl) ?step _ _ _ _ (by kernel_rfl) ?start
    case start =>
      refine ⟨ChDyn.new (ChSpec.mk w.heap.size 2 2 r0 N (hndL st pre) (.int .i64 h) [.int .i64 h]) (A0.tmps[16]?.getD undef) (A0.tmps[17]?.getD undef) (A0.tmps[18]?.getD undef) (A0.tmps[19]?.getD undef), ChDyn.new (ChSpec.mk w.heap.size 3 3 r1 N (valL st pre) (.int .i64 z) [.int .i64 z]) (A0.tmps[20]?.getD undef) (A0.tmps[21]?.getD undef) (A0.tmps[22]?.getD undef) (A0.tmps[23]?.getD undef), rfl, ?_, (fun h => by cases h), ?_⟩
      · simp only [ChDyn.new, put_self]
      · exact ((Chains.nil Wr).add (ChSpec.mk w.heap.size 3 3 r1 N (valL st pre) (.int .i64 z) [.int .i64 z]) _ _ _ _ HO1.out (fun gk hg c hc => by cases hc)).add (ChSpec.mk w.heap.size 2 2 r0 N (hndL st pre) (.int .i64 h) [.int .i64 h]) _ _ _ _ HO0.out (fun gk hg c hc => by simp only [List.mem_cons, List.not_mem_nil, or_false] at hc; subst hc; exact fun hm => HDd.out.n01 gk hg (by simpa [ChDyn.new] using hm))
    case step =>
      rintro l a wx ⟨⟨cr0, cy0, cb0, ca0, cvr0, cvx0, cvb0, cva0, cu0⟩, ⟨cr1, cy1, cb1, ca1, cvr1, cvx1, cvb1, cva1, cu1⟩, rfl, rfl, HACH, HC⟩
      have hA0 := HA0.out
      subst hA0
      clear HA0
      have HE := HCELL.out _ _ _ HC
      clear HCELL
      have q0 : wx.cell? ⟨w.heap.size, 0, none⟩ = some r0 := by rw [cell_of_block HE.1]; rfl
      have q1 : wx.cell? ⟨w.heap.size + 1, 0, none⟩ = some r1 := by rw [cell_of_block HE.2]; rfl
      have hsz := HC.size
      by_cases hdone : ca0 = true ∧ ca1 = true
      · left
        obtain ⟨rfl, rfl⟩ := hdone
        obtain ⟨z1, z2, z3, g0, cap0, z4, hu0, own0⟩ := (Chains.at0 HC).done rfl
        dsimp only at z1 z2 z3 z4
        subst z1 z2 z3 z4
        obtain ⟨z1, z2, z3, g1, cap1, z4, hu1, own1⟩ := (Chains.at1 HC).done rfl
        dsimp only at z1 z2 z3 z4
        subst z1 z2 z3 z4
        refine wpAnyIn_fuel 2 (by kernel_rfl) ?_
        simp only [Act.put, List.setIfInBounds_toArray, List.set_cons_zero, List.set_cons_succ]
        have fz0 : ∀ j, wx.frozen? ⟨w.heap.size, j, none⟩ = false := fun j => unfrozen_of_block HE.1 j
        have fz1 : ∀ j, wx.frozen? ⟨w.heap.size + 1, j, none⟩ = false := fun j => unfrozen_of_block HE.2 j
        have HCC := Lib.hid HC
        clear HC
        refine wpAnyIn_ready (rs := [8]) (by kernel_rfl) (by simp) (AllReadyIn.cons rfl (fun K hK => ?_) AllReadyIn.nil)
        go_simp
        refine hK _ _ ?_
        clear hK K
        refine wpAnyIn_ready (rs := [9]) (by kernel_rfl) (by simp) (AllReadyIn.cons rfl (fun K hK => ?_) AllReadyIn.nil)
        go_simp
        refine hK _ _ ?_
        clear hK K
        refine wpAnyIn_done (by kernel_rfl) ?_ _
        gi_wp2
        have n1 : decide ((1024 : Int) < (N : Int) + 1) = false := by simp; omega
        have n2 : decide (1024 < N + 1) = false := by simp; omega
        gi_wp2
        have hk0 : KeepsFrom w2.heap.size W Wr := by rw [← HWD.out]; exact ⟨Nat.le_refl _, fun _ _ _ h _ => h⟩
        refine ⟨(hk0.trans (HDd.out.keeps HCC.out _)).trans (((KeepsOthers.setCell _ _ _).trans (KeepsOthers.setCell _ _ _)).from _), trivial, _, _, WD.next HDd.out HNN.out ⟨hpl, hql⟩ HH.out HZ.out HCC.out own0 own1 hu0 hu1⟩
      · right
        refine ⟨openOps_pos (i := 9) (by decide) rfl, fun i hi => ?_⟩
        obtain ⟨ho, hlt⟩ := ready_open hi
        have hlt2 : i < 10 := hlt
        rcases (by omega : i = 0 ∨ i = 1 ∨ i = 2 ∨ i = 3 ∨ i = 4 ∨ i = 5 ∨ i = 6 ∨ i = 7 ∨ i = 8 ∨ i = 9) with rfl | rfl | rfl | rfl | rfl | rfl | rfl | rfl | rfl | rfl
        · refine wpOpIn_step rfl (fun K hK => ?_)
          simp only [Act.put, List.setIfInBounds_toArray, List.set_cons_zero, List.set_cons_succ]
          go_simp
          refine hK _ _ ⟨⟨true, cy0, cb0, ca0, ((ChSpec.mk w.heap.size 2 2 r0 N (hndL st pre) (.int .i64 h) [.int .i64 h])).row, cvx0, cvb0, cva0, cu0⟩, ⟨cr1, cy1, cb1, ca1, cvr1, cvx1, cvb1, cva1, cu1⟩, ?_, ?_, HACH, ?_⟩
          · rfl
          · simp only [Act.put, List.setIfInBounds_toArray, List.set_cons_zero, List.set_cons_succ]
          · exact Chains.r0 HC
        · refine wpOpIn_step rfl (fun K hK => ?_)
          simp only [Act.put, List.setIfInBounds_toArray, List.set_cons_zero, List.set_cons_succ]
          go_simp
          refine hK _ _ ⟨⟨cr0, true, cb0, ca0, cvr0, ((ChSpec.mk w.heap.size 2 2 r0 N (hndL st pre) (.int .i64 h) [.int .i64 h])).x, cvb0, cva0, cu0⟩, ⟨cr1, cy1, cb1, ca1, cvr1, cvx1, cvb1, cva1, cu1⟩, ?_, ?_, HACH, ?_⟩
          · rfl
          · simp only [Act.put, List.setIfInBounds_toArray, List.set_cons_zero, List.set_cons_succ]
          · exact Chains.y0 HC
        · have hY : cy0 = true := needs_ready (j := 1) hi (by kernel_rfl)
          have hb0 : cb0 = false := ho
          have hx := (Chains.at0 HC).val hY
          have ha0 : ca0 = false := by
            cases hq : ca0 with
            | false => rfl
            | true => have := ((Chains.at0 HC).done hq).2.2.1; dsimp only at this; rw [hb0] at this; cases this
          dsimp only at hx
          subst hx
          refine wpOpIn_step rfl (fun K hK => ?_)
          simp only [Act.put, List.setIfInBounds_toArray, List.set_cons_zero, List.set_cons_succ]
          go_simp
          refine hK _ _ ⟨⟨cr0, cy0, true, ca0, cvr0, ((ChSpec.mk w.heap.size 2 2 r0 N (hndL st pre) (.int .i64 h) [.int .i64 h])).x, (.slice (some ⟨wx.heap.size, 0, none⟩) 1 1), cva0, (wx.heap.size :: cu0)⟩, ⟨cr1, cy1, cb1, ca1, cvr1, cvx1, cvb1, cva1, cu1⟩, ?_, ?_, HACH, ?_⟩
          · rfl
          · simp only [Act.put, List.setIfInBounds_toArray, List.set_cons_zero, List.set_cons_succ]
          · exact Chains.b0 HC ha0 hY
        · have hR : cr0 = true := needs_ready (j := 0) hi (by kernel_rfl)
          have hbq : cb0 = true := needs_ready (j := 2) hi (by kernel_rfl)
          have ha0 : ca0 = false := ho
          have hat0 := Chains.at0 HC
          have hr := (hat0.row hR).symm
          obtain ⟨gl, hvb, hgu, hlit⟩ := hat0.lit hbq ha0
          dsimp only at hr hvb
          subst hr hvb
          refine wpOpIn_step rfl (fun K hK => ?_)
          simp only [Act.put, List.setIfInBounds_toArray, List.set_cons_zero, List.set_cons_succ]
          refine (if_pos (show Region.wanted _ _ = true from rfl)).mpr ?_
          refine wpIn_append_lies wx (.tmp 16) (.tmp 18) 51 (by rfl) w.heap.size 2 i0 (.int .i64 0) 1 8 Tryd.underlying51 hi0 hz0 hs0 hb0 rfl (by decide) ((ChSpec.mk w.heap.size 2 2 r0 N (hndL st pre) (.int .i64 h) [.int .i64 h])).row N ((ChSpec.mk w.heap.size 2 2 r0 N (hndL st pre) (.int .i64 h) [.int .i64 h])).xs (by rfl) (hat0.own ha0) ⟨gl, 0, none⟩ 1 1 ((ChSpec.mk w.heap.size 2 2 r0 N (hndL st pre) (.int .i64 h) [.int .i64 h])).xc (by rfl) (by rfl) (World.news_of_block hlit) (by intro u hu; simp at hu; subst hu; rfl) (by decide) (by simp only [maxLen]; omega) (by omega) (by have := HDd.out.k.size; omega) wx.heap.size rfl ?_
          intro gn cap w1 hown hgrow hat hlt1
          refine hK _ _ ⟨⟨cr0, cy0, cb0, true, ((ChSpec.mk w.heap.size 2 2 r0 N (hndL st pre) (.int .i64 h) [.int .i64 h])).row, cvx0, (.slice (some ⟨gl, 0, none⟩) 1 1), (.slice (some ⟨gn, 0, none⟩) (N + 1) cap), (gn :: cu0)⟩, ⟨cr1, cy1, cb1, ca1, cvr1, cvx1, cvb1, cva1, cu1⟩, ?_, ?_, (fun _ => rfl), ?_⟩
          · rfl
          · simp only [List.getElem_toArray, List.getElem_cons_succ, List.getElem_cons_zero, Act.put, List.setIfInBounds_toArray, List.set_cons_zero, List.set_cons_succ]
          · exact Chains.a0 HC hR hbq hown hgrow hat hlt1
        · refine wpOpIn_step rfl (fun K hK => ?_)
          simp only [Act.put, List.setIfInBounds_toArray, List.set_cons_zero, List.set_cons_succ]
          go_simp
          refine hK _ _ ⟨⟨cr0, cy0, cb0, ca0, cvr0, cvx0, cvb0, cva0, cu0⟩, ⟨true, cy1, cb1, ca1, ((ChSpec.mk w.heap.size 3 3 r1 N (valL st pre) (.int .i64 z) [.int .i64 z])).row, cvx1, cvb1, cva1, cu1⟩, ?_, ?_, HACH, ?_⟩
          · rfl
          · simp only [Act.put, List.setIfInBounds_toArray, List.set_cons_zero, List.set_cons_succ]
          · exact Chains.r1 HC
        · refine wpOpIn_step rfl (fun K hK => ?_)
          simp only [Act.put, List.setIfInBounds_toArray, List.set_cons_zero, List.set_cons_succ]
          go_simp
          refine hK _ _ ⟨⟨cr0, cy0, cb0, ca0, cvr0, cvx0, cvb0, cva0, cu0⟩, ⟨cr1, true, cb1, ca1, cvr1, ((ChSpec.mk w.heap.size 3 3 r1 N (valL st pre) (.int .i64 z) [.int .i64 z])).x, cvb1, cva1, cu1⟩, ?_, ?_, HACH, ?_⟩
          · rfl
          · simp only [Act.put, List.setIfInBounds_toArray, List.set_cons_zero, List.set_cons_succ]
          · exact Chains.y1 HC
        · have hY : cy1 = true := needs_ready (j := 5) hi (by kernel_rfl)
          have hb0 : cb1 = false := ho
          have hx := (Chains.at1 HC).val hY
          have ha0 : ca1 = false := by
            cases hq : ca1 with
            | false => rfl
            | true => have := ((Chains.at1 HC).done hq).2.2.1; dsimp only at this; rw [hb0] at this; cases this
          dsimp only at hx
          subst hx
          refine wpOpIn_step rfl (fun K hK => ?_)
          simp only [Act.put, List.setIfInBounds_toArray, List.set_cons_zero, List.set_cons_succ]
          go_simp
          refine hK _ _ ⟨⟨cr0, cy0, cb0, ca0, cvr0, cvx0, cvb0, cva0, cu0⟩, ⟨cr1, cy1, true, ca1, cvr1, ((ChSpec.mk w.heap.size 3 3 r1 N (valL st pre) (.int .i64 z) [.int .i64 z])).x, (.slice (some ⟨wx.heap.size, 0, none⟩) 1 1), cva1, (wx.heap.size :: cu1)⟩, ?_, ?_, HACH, ?_⟩
          · rfl
          · simp only [Act.put, List.setIfInBounds_toArray, List.set_cons_zero, List.set_cons_succ]
          · exact Chains.b1 HC ha0 hY
        · have hR : cr1 = true := needs_ready (j := 4) hi (by kernel_rfl)
          have hbq : cb1 = true := needs_ready (j := 6) hi (by kernel_rfl)
          have ha0 : ca1 = false := ho
          have hat0 := Chains.at1 HC
          have hr := (hat0.row hR).symm
          obtain ⟨gl, hvb, hgu, hlit⟩ := hat0.lit hbq ha0
          dsimp only at hr hvb
          subst hr hvb
          refine wpOpIn_step rfl (fun K hK => ?_)
          simp only [Act.put, List.setIfInBounds_toArray, List.set_cons_zero, List.set_cons_succ]
          refine (if_pos (show Region.wanted _ _ = true from rfl)).mpr ?_
          refine wpIn_append_lies wx (.tmp 20) (.tmp 22) 32 (by rfl) w.heap.size 3 i1 (.int .i64 0) 1 8 Tryd.underlying32 hi1 hz1 hs1 hb1 rfl (by decide) ((ChSpec.mk w.heap.size 3 3 r1 N (valL st pre) (.int .i64 z) [.int .i64 z])).row N ((ChSpec.mk w.heap.size 3 3 r1 N (valL st pre) (.int .i64 z) [.int .i64 z])).xs (by rfl) (hat0.own ha0) ⟨gl, 0, none⟩ 1 1 ((ChSpec.mk w.heap.size 3 3 r1 N (valL st pre) (.int .i64 z) [.int .i64 z])).xc (by rfl) (by rfl) (World.news_of_block hlit) (by intro u hu; simp at hu; subst hu; rfl) (by decide) (by simp only [maxLen]; omega) (by omega) (by have := HDd.out.k.size; omega) wx.heap.size rfl ?_
          intro gn cap w1 hown hgrow hat hlt1
          have hprev : ca0 = true := needs_ready (j := 3) hi (by kernel_rfl)
          refine hK _ _ ⟨⟨cr0, cy0, cb0, ca0, cvr0, cvx0, cvb0, cva0, cu0⟩, ⟨cr1, cy1, cb1, true, ((ChSpec.mk w.heap.size 3 3 r1 N (valL st pre) (.int .i64 z) [.int .i64 z])).row, cvx1, (.slice (some ⟨gl, 0, none⟩) 1 1), (.slice (some ⟨gn, 0, none⟩) (N + 1) cap), (gn :: cu1)⟩, ?_, ?_, (fun _ => hprev), ?_⟩
          · rfl
          · simp only [List.getElem_toArray, List.getElem_cons_succ, List.getElem_cons_zero, Act.put, List.setIfInBounds_toArray, List.set_cons_zero, List.set_cons_succ]
          · exact Chains.a1 HC hR hbq hown hgrow hat hlt1
        · have hA1 : ca1 = true := needs_ready (j := 7) hi (by kernel_rfl)
          have hA0 : ca0 = true := HACH hA1
          exact absurd ⟨hA0, hA1⟩ hdone
        · exact absurd (show false = true from needs_ready (j := 8) hi (by kernel_rfl)) (by decide)
  case done =>
    rintro D' xs W hD' hxs ⟨r0, r1, hD⟩ hK
    have hxe : xs = alvL st st.length := hxs
    subst hxe
    have o0 := hD.o0
    have o1 := hD.o1
    rw [HNA.out] at o0 o1
    obtain ⟨a0, k0, rfl⟩ := own_slice o0
    obtain ⟨a1, k1, rfl⟩ := own_slice o1
    have c4 := (show W.cell? ⟨w.heap.size, 0, none⟩ = some (.slice a0 NN k0) by rw [cell_of_block hD.b4]; rfl)
    have c5 := (show W.cell? ⟨w.heap.size + 1, 0, none⟩ = some (.slice a1 NN k1) by rw [cell_of_block hD.b5]; rfl)
    have HD := Lib.hid hD
    have HK := Lib.hid hK
    have HO0 := Lib.hid o0
    have HO1 := Lib.hid o1
    clear hD hK o0 o1 hxs
    gi_wp2
    refine code_noPanic' ?_
    gi_region_with (fail)
    all_goals
      simp only [noPanic']
      gi_wp2
      have hK' : W.drew.heap[D']? = some (.deferred (some [])) := HK.out
      refine ⟨by simp, .inl ⟨_, _, rfl, run_takeDeferred hK', ?_⟩⟩
      have hg := grownBy_putObj' W.drew D' (.deferred none)
      have hr : ∀ r, some D' = some r → ∃ o : Obj, W.drew.heap[r]? = some o ∧ o.isCells = false := fun r e => by cases e; exact ⟨_, hK', rfl⟩
      refine ⟨.tuple #[.slice a0 NN k0, .slice a1 NN k1], ?_, a0, k0, a1, k1, rfl, own_stays' (own_below HO0.out (Below.refl _ _).drew) hg hr, own_stays' (own_below HO1.out (Below.refl _ _).drew) hg hr, (HD.out.k.trans ((Below.refl w.heap.size W).drew)).trans (belowK_b (w := w) (Nat.le_refl _) _ D' _ _ (by have := HWD0.out.k.size; omega) hK' rfl rfl)⟩
      simp [results, Tryd.f25, go_sem]
end
end Go.Proofs.YtpaecmpiokkdnaaDoor

namespace Go.Proofs.YtpaecmpiokkdnaaDoor
open Go.RowKit Go.Sort Go.Joins
attribute [local go_sem] cell_grow frozen_grow size_grow

theorem cnt_filled (r : Nat → Bool) (i : Nat) : ∀ n, i < n → r i = true → cnt (filled r i (i + 1) false) 0 n + 1 = cnt r 0 n
  | 0, h, _ => by omega
  | n + 1, h, hr => by
    by_cases e : i = n
    · subst e
      have h1 : cnt (filled r i (i + 1) false) 0 i = cnt r 0 i := cnt_congr i (fun j hj => by unfold filled; rw [if_neg (by omega)])
      have h2 : filled r i (i + 1) false i = false := by unfold filled; rw [if_pos ⟨Nat.le_refl _, by omega⟩]
      simp only [cnt, h1, h2, hr]; simp
    · have h1 := cnt_filled r i n (by omega) hr
      have h2 : filled r i (i + 1) false n = r n := by unfold filled; rw [if_neg (by omega)]
      simp only [cnt, h2]; omega
/-- the state while slots are filled -/
structure SP (st0 st : List Slt) (room k : Nat) : Prop where
  len : st.length = st0.length
  rd : ∀ j, rdyF st j = true → st.getD j (0, false, undef) = st0.getD j (0, false, undef)
  num : cnt (rdyF st) 0 st.length + k = room
  g : ∀ j, j < st.length → (st.getD j (0, false, undef)).1 ≤ 65535 ∧ ((st.getD j (0, false, undef)).2.1 = true → 1 ≤ (st.getD j (0, false, undef)).1)
  v : ∀ j, j < st.length → ∃ z : Int, (st.getD j (0, false, undef)).2.2 = .int .i64 z
theorem getD_set {st : List Slt} {i j : Nat} {s : Slt} (hi : i < st.length) : (st.set i s).getD j (0, false, undef) = if i = j then s else st.getD j (0, false, undef) := by
  rw [List.getD_eq_getElem?_getD, List.getElem?_set]
  by_cases e : i = j
  · subst e; rw [if_pos rfl, if_pos rfl, if_pos hi]; rfl
  · rw [if_neg e, if_neg e, List.getD_eq_getElem?_getD]
theorem SP.next {st0 st : List Slt} {room k : Nat} (h : SP st0 st room k) (hk : k < room) : ∃ i, nxt (rdyF st) 0 st.length = i ∧ i < st.length ∧ rdyF st i = true := by
  obtain ⟨_, h2, h3, h4⟩ := nxt_spec (p := rdyF st) (a := 0) (n := st.length) (Nat.zero_le _)
  refine ⟨_, rfl, ?_, ?_⟩
  · rcases Nat.lt_or_ge (nxt (rdyF st) 0 st.length) st.length with h5 | h5
    · exact h5
    · have := cnt_none (p := rdyF st) (a := 0) st.length (fun i hi _ => h3 i (Nat.zero_le _) (by omega))
      have := h.num
      omega
  · refine h4 ?_
    rcases Nat.lt_or_ge (nxt (rdyF st) 0 st.length) st.length with h5 | h5
    · exact h5
    · have := cnt_none (p := rdyF st) (a := 0) st.length (fun i hi _ => h3 i (Nat.zero_le _) (by omega))
      have := h.num
      omega
theorem SP.put {st0 st : List Slt} {room k i : Nat} (h : SP st0 st room k) (hi : i < st.length) (hr : rdyF st i = true) (z : Int) : SP st0 (st.set i ((st.getD i (0, false, undef)).1 + 1, true, .int .i64 z)) room (k + 1) := by
  obtain ⟨_, h1, h2⟩ := Int.rdyF_at hr
  have e : rdyF (st.set i ((st.getD i (0, false, undef)).1 + 1, true, .int .i64 z)) = filled (rdyF st) i (i + 1) false := by
    rw [← rdyF_set _ hi, ← Int.rdy_t]
  refine ⟨by simpa using h.len, fun j hj => ?_, ?_, fun j hj => ?_, fun j hj => ?_⟩
  · rw [e] at hj
    unfold filled at hj
    by_cases e1 : i ≤ j ∧ j < i + 1
    · rw [if_pos e1] at hj; cases hj
    · rw [if_neg e1] at hj
      rw [getD_set hi, if_neg (by omega)]
      exact h.rd j hj
  · have := cnt_filled (rdyF st) i st.length hi hr
    have := h.num
    rw [e, List.length_set]; omega
  · rw [List.length_set] at hj
    rw [getD_set hi]
    by_cases e1 : i = j
    · rw [if_pos e1]; exact ⟨by dsimp only; omega, fun _ => by dsimp only; omega⟩
    · rw [if_neg e1]; exact h.g j hj
  · rw [List.length_set] at hj
    rw [getD_set hi]
    by_cases e1 : i = j
    · rw [if_pos e1]; exact ⟨z, rfl⟩
    · rw [if_neg e1]; exact h.v j hj
theorem SP.full {st0 st : List Slt} {room : Nat} (h : SP st0 st room room) : ∀ j, j < st.length → rdyF st j = false := by
  have h1 : cnt (rdyF st) 0 st.length = 0 := by have := h.num; omega
  exact fun j hj => cnt_eq_zero h1 j (Nat.zero_le _) hj
theorem no_next {r : Nat → Bool} {n : Nat} (h : ∀ j, j < n → r j = false) : nxt r 0 n = n := nxt_eq (Nat.zero_le _) (Nat.zero_le _) (Nat.le_refl _) (fun j _ hj => h j hj) (fun h => by omega)
theorem SP.start {n : Nat} {G : Nat → Int} {A : Nat → Bool} {V : Nat → Int} (hb : ∀ j, j < n → badS G A j = false) : SP (stP n G A (zI V) (.int .i64 0) n) (stP n G A (zI V) (.int .i64 0) n) (cnt (rdyF (stP n G A (zI V) (.int .i64 0) n)) 0 n) 0 := by
  refine ⟨rfl, fun _ _ => rfl, by rw [stP_length]; rfl, fun j hj => ?_, fun j hj => ?_⟩
  · rw [stP_length] at hj
    rw [stP_get hj, if_pos hj]
    obtain ⟨b1, b2, b3⟩ := badS_ok (hb j hj)
    dsimp only
    exact ⟨by omega, fun ha => by have := b3 ha; omega⟩
  · rw [stP_length] at hj
    rw [stP_get hj, if_pos hj]
    cases A j
    · exact ⟨0, by simp⟩
    · exact ⟨V j, by simp⟩

theorem alv_len (st : List Slt) : (alvL st st.length).length = st.countP alv := by
  have h : st = (List.range st.length).map (fun j => st.getD j (0, false, undef)) := by
    apply List.ext_getElem?
    intro j
    by_cases hj : j < st.length
    · simp [hj]
    · simp [hj]
  rw [show List.countP alv st = List.countP alv (List.map (fun j => st.getD j (0, false, undef)) (List.range st.length)) from congrArg (List.countP alv) h, List.countP_map]
  unfold alvL
  rw [List.countP_eq_length_filter]
  rfl
theorem rd_drop {st : List Slt} {x g : Nat} {z : Value} (hx : x < st.length) (hf : ∀ j, j < st.length → rdyF st j = false) : nxt (rdyF (st.set x (g, false, z))) 0 (st.set x (g, false, z)).length = if g < 65535 then x else st.length := by
  have e : ∀ j, rdyF (st.set x (g, false, z)) j = if j = x then decide (g < 65535) else rdyF st j := fun j => by
    rw [← rdyF_set _ hx]
    unfold filled rdy
    by_cases h : j = x
    · subst h; rw [if_pos ⟨Nat.le_refl _, by omega⟩, if_pos rfl]; simp
    · rw [if_neg (by omega), if_neg h]
  rw [List.length_set]
  by_cases hg : g < 65535
  · rw [if_pos hg]
    exact nxt_eq (Nat.zero_le _) (Nat.zero_le _) (by omega) (fun j _ hj => by rw [e, if_neg (by omega)]; exact hf j (by omega)) (fun _ => by rw [e, if_pos rfl]; simpa using hg)
  · rw [if_neg hg]
    exact no_next fun j hj => by
      rw [e]
      by_cases h : j = x
      · rw [if_pos h]; simpa using hg
      · rw [if_neg h]; exact hf j hj
section
variable {n na nv nd : Nat} {ga aa va : Option Addr} {gc ac vc : Nat} {G : Nat → Int} {A : Nat → Bool} {V : Nat → Int}
set_option maxRecDepth 100000 in
set_option maxHeartbeats 6400000 in
theorem law_spent_ok (dr : Nat) (w : World) (hG : SlF w ga n (zI G)) (hA : SlF w aa n (zB A)) (hV : SlF w va n (zI V)) (hn : n ≤ 60) (hdr : dr ≤ 255) (he : hcE n n n G A = 0) (hT : Tab w) :
    Calls Tryd.prog 8 #[.agg #[.slice ga n gc, .slice aa n ac, .slice va n vc], .int .u8 (dr : Int)] w fun e w' => e = .returned (.bool true) ∧ Below w.heap.size w w' := by
  obtain ⟨hn1, -, -, -, hbad⟩ := hcE_zero he
  obtain ⟨st0, hst⟩ : ∃ st, stP n G A (zI V) (.int .i64 0) n = st := ⟨_, rfl⟩
  have hsl : st0.length = n := by rw [← hst, stP_length]
  have hs0 := SP.start (V := V) hbad
  have hGx : ∀ j, j < n → G j = ((st0.getD j (0, false, undef)).1 : Int) := fun j hj => by
    rw [← hst, stP_get hj, if_pos hj]
    have := (badS_ok (hbad j hj)).1
    dsimp only; omega
  rw [hst] at hs0
  obtain ⟨rm, hrm⟩ : ∃ rm, cnt (rdyF st0) 0 n = rm := ⟨_, rfl⟩
  have hrb : rm ≤ n := by rw [← hrm]; exact cnt_le _ _ _
  rw [hrm] at hs0
  have hTl := hT.lt
  have bb := below_box0 w (.cells #[.slice ga n gc, .slice aa n ac, .slice va n vc] 35)
  have HB := Lib.hid bb
  have HG := Lib.hid (hG.below bb)
  have HA := Lib.hid (hA.below bb)
  have HV := Lib.hid (hV.below bb)
  have HGw := Lib.hid hG
  have HT := Lib.hid (hT.below bb)
  have HTl := Lib.hid hTl
  have HE := Lib.hid he
  have HST := Lib.hid hst
  have HSL := Lib.hid hsl
  have HS0 := Lib.hid hs0
  have HRM := Lib.hid hrm
  have HGX := Lib.hid hGx
  have d1 : decide ((60 : Int) < (n : Int)) = false := by simp; omega
  have d2 : decide (60 < n) = false := by simp; omega
  clear hG hA hV hT hTl he hbad hst hs0 hsl hrm hGx bb
  go_enter Tryd.func8, Tryd.ntmps8
  go_wp2_with fail
  refine (Int.load_ok _ HG.out HA.out HV.out (fun _ => ⟨_, rfl⟩) HE.out).mono ?_
  rintro e w1 ⟨p, q, rfl, t1, b1⟩
  rw [HST.out] at t1
  have hp := Tb.hp t1
  have hq := Tb.hq t1
  simp only [World.size_alloc] at hp hq t1
  have hbox : w1.heap[w.heap.size]? = some (.cells #[.slice ga n gc, .slice aa n ac, .slice va n vc] 35 (0, 0)) := (b1.block _ (by simp)).trans (heap_alloc_new w _)
  have hpl := Tb.c0 t1
  have hpl := World.block_lt_of_cell? _ _ hpl
  have hql := blk_lt (Tb.slots t1)
  dsimp only at hpl
  have T1 := Lib.hid t1
  have X1 := Lib.hid (HT.out.below b1)
  have B1 := Lib.hid (HB.out.trans (b1.mono (by simp)))
  have BX1 := Lib.hid hbox
  clear t1 b1 hbox
  go_wp2_with fail
  refine (Int.room_ok _ T1.out).mono ?_
  rintro e w2 ⟨rfl, b2⟩
  rw [HSL.out, HRM.out]
  have T2 := Lib.hid (Tg.below T1.out b2)
  have X2 := Lib.hid (X1.out.below b2)
  have B2 := Lib.hid (B1.out.trans (b2.mono B1.out.size))
  have BX2 := Lib.hid ((b2.block _ (blk_lt BX1.out)).trans BX1.out)
  clear b2
  go_wp2
  go_loopw [8] (fun x wr => ∃ (k : Nat) (st : List Slt), x = .int .i64 k ∧ k ≤ rm ∧ Hid (SP st0 st rm k) ∧ Hid (Int.TT wr (w.heap.size + 1) p q st) ∧ Hid (Tab wr) ∧ Hid (Below w.heap.size w wr) ∧ Hid (wr.heap[w.heap.size]? = some (.cells #[.slice ga n gc, .slice aa n ac, .slice va n vc] 35 (0, 0)))) (fun x _ => rm - (intOf x).toNat)
  case atStart => exact ⟨0, st0, rfl, Nat.zero_le _, HS0, T2, X2, B2, BX2⟩
  case round =>
    clear T1 X1 B1 BX1 T2 X2 B2 BX2
    obtain ⟨k, st, rfl, hk, HS, HT1, HX, HK, HBX⟩ := hrel
    have hsn : st.length = n := HS.out.len.trans HSL.out
    by_cases hlt : k < rm
    · obtain ⟨i, hi, hil, hri⟩ := HS.out.next hlt
      have hil2 : i < n := by omega
      obtain ⟨_, hal, hg9⟩ := Int.rdyF_at hri
      have hgi := HGX.out i hil2
      rw [← HS.out.rd i hri] at hgi
      obtain ⟨g, hg⟩ : ∃ g, (st.getD i (0, false, undef)).1 = g := ⟨_, rfl⟩
      have hput := Int.tput_ok i (k : Int) wr HT1.out HX.out hi hil
      have hsp := HS.out.put hil hri (k : Int)
      rw [hg] at hput hgi hg9 hsp
      have hcnt := hsp.num
      rw [List.length_set] at hcnt
      obtain ⟨c, hc⟩ : ∃ c, cnt (rdyF (st.set i (g + 1, true, .int .i64 (k : Int)))) 0 st.length = c := ⟨_, rfl⟩
      rw [hc] at hcnt
      obtain ⟨e1, e2⟩ := hnd_slot (g := g + 1) (x := i) (by omega) (by omega) (by omega)
      rw [show ((g + 1 : Nat) : Int) = (g : Int) + 1 by omega] at e1 e2
      obtain ⟨gb, go, hga, cg⟩ := HGw.out.at_ hil2
      have HGA := Lib.hid hga
      clear hga
      have hlg := World.block_lt_of_cell? _ _ cg
      have n0 : (0 : Int) ≤ (i : Int) := by omega
      have n1 : (i : Int) < (n : Int) := by omega
      have q1 : decide ((k : Int) < (rm : Int)) = true := by simp; omega
      have q2 : decide (k < rm) = true := by simpa using hlt
      have q3 : decide ((i : Int) < 0) = false := by simp
      have q4 : decide ((n : Int) ≤ (i : Int)) = false := by simp; omega
      have q5 : decide (n ≤ i) = false := by simp; omega
      have q6 : ((c : Int) != (rm : Int) - 1 - (k : Int)) = false := by simp; omega
      have q7 : (((g : Int) + 1) != (g : Int) + 1) = false := by simp
      dsimp only [zI] at cg
      dsimp only at hlg
      rw [hgi] at cg
      have HP := Lib.hid hput
      have HSP := Lib.hid hsp
      have HC := Lib.hid hc
      have HE1 := Lib.hid e1
      have HE2 := Lib.hid e2
      have HSN := Lib.hid hsn
      clear hput hsp hc e1 e2 hg hgi hal hri hi hcnt hsn
      go_wp2_with fail
      refine HP.out.mono ?_
      rintro e w3 ⟨rfl, t3, f3⟩
      have T3 := Lib.hid t3
      have X3 := Lib.hid (HX.out.fr f3 (by have := HTl.out; omega) (by have := HTl.out; omega))
      have K3 := Lib.hid (Fr.below HK.out f3 (by omega) (by omega) HK.out.size)
      have BX3 := Lib.hid ((f3.block _ (blk_lt HBX.out) (by omega) (by omega)).trans HBX.out)
      clear t3 f3
      go_wp2_with fail
      refine (slot_ok _ _).mono ?_
      rintro e w4 ⟨rfl, rfl⟩
      rw [HE1.out, HE2.out]
      go_wp2_with fail
      refine (Int.room_ok _ T3.out).mono ?_
      rintro e w5 ⟨rfl, b5⟩
      rw [List.length_set, HC.out]
      have bx5 := (b5.block _ (blk_lt BX3.out)).trans BX3.out
      have T5 := Lib.hid (Tg.below T3.out b5)
      have X5 := Lib.hid (X3.out.below b5)
      have K5 := Lib.hid (K3.out.trans (b5.mono K3.out.size))
      have c20 : w5.cell? ⟨w.heap.size, 0, none⟩ = some (.slice ga n gc) := by rw [cell_of_block bx5]; rfl
      rw [HGA.out] at c20
      have cg5 := (K5.out.cell (p := ⟨gb, go + i, none⟩) hlg).trans cg
      have BX5 := Lib.hid bx5
      clear bx5 b5 cg
      go_wp2
      refine ⟨⟨k + 1, _, by simp, by omega, HSP, T5, X5, K5, BX5⟩, by simp [intOf]; omega⟩
    · have q1 : decide ((k : Int) < (rm : Int)) = false := by simp; omega
      have q2 : decide (k < rm) = false := by simpa using hlt
      obtain rfl : k = rm := by omega
      have q3 : decide ((k : Int) < 0) = false := by simp
      have hful := HS.out.full
      have HF := Lib.hid hful
      have HSN := Lib.hid hsn
      have hnx : ¬ nxt (rdyF st) 0 st.length < st.length := by rw [no_next hful]; omega
      have HNX := Lib.hid hnx
      clear hful hsn hnx
      go_wp2_with fail
      refine (Int.tput_full 1 _ HT1.out HX.out HNX.out).mono ?_
      rintro e w3 ⟨rfl, b3⟩
      have T3 := Lib.hid (Tg.below HT1.out b3)
      have X3 := Lib.hid (HX.out.below b3)
      have K3 := Lib.hid (HK.out.trans (b3.mono HK.out.size))
      have BX3 := Lib.hid ((b3.block _ (blk_lt HBX.out)).trans HBX.out)
      clear b3
      go_wp2_with fail
      refine (walked_ok _ T3.out (fun j hj => (HS.out.g j hj).1) (fun j hj => HS.out.v j hj)).mono ?_
      rintro e w4 ⟨a0, k0, a1, k1, rfl, o0, o1, b4⟩
      have T4 := Lib.hid (Tg.below T3.out b4)
      have X4 := Lib.hid (X3.out.below b4)
      have K4 := Lib.hid (K3.out.trans (b4.mono K3.out.size))
      have BX4 := Lib.hid ((b4.block _ (blk_lt BX3.out)).trans BX3.out)
      obtain ⟨N, hN⟩ : ∃ N, (alvL st st.length).length = N := ⟨_, rfl⟩
      have hcp := alv_len st
      rw [hN] at hcp o0
      rw [hN]
      have O0 := Lib.hid o0
      have HNN := Lib.hid hN
      have HCP := Lib.hid hcp
      have hNb : N ≤ n := by rw [hcp, ← HSN.out]; exact List.countP_le_length
      clear b4 o0 o1 hN hcp
      by_cases hN0 : N = 0
      · subst hN0
        have hlen := Int.len_ok _ T4.out
        rw [← HCP.out] at hlen
        have HLN := Lib.hid hlen
        clear hlen
        go_wp2_with fail
        refine HLN.out.mono ?_
        rintro e w5 ⟨rfl, rfl⟩
        go_wp2_with fail
        refine (awake_ok _ X4.out).mono ?_
        rintro e w6 ⟨rfl, b6⟩
        have K6 := Lib.hid (K4.out.trans (b6.mono K4.out.size))
        clear b6
        go_wp2
        go_ret
        exact ⟨rfl, K6.out⟩
      · obtain ⟨m, hm⟩ : ∃ m, dr % N = m := ⟨_, rfl⟩
        have hmN : m < N := by rw [← hm]; exact Nat.mod_lt _ (by omega)
        have hm1 : (dr : Int) % (N : Int) = (m : Int) := by rw [← hm]; rfl
        have hm2 : (dr : Int).tmod (N : Int) = (m : Int) := by rw [← hm]; rfl
        have qN : ((N : Int) == 0) = false := by simp; omega
        have qN2 : decide (N = 0) = false := by simpa using hN0
        have m0 : (0 : Int) ≤ (m : Int) := by omega
        have m1 : (m : Int) < (N : Int) := by omega
        have dr0 : (0 : Int) ≤ (dr : Int) := by omega
        have dr1 : (dr : Int) ≤ 255 := by omega
        have N1 : (0 : Int) < (N : Int) := by omega
        obtain ⟨x, hx⟩ : ∃ x, (alvL st st.length).getD m 0 = x := ⟨_, rfl⟩
        have hxm : x ∈ alvL st st.length := by
          rw [← hx, List.getD_eq_getElem?_getD, List.getElem?_eq_getElem (by rw [HNN.out]; exact hmN)]
          exact List.getElem_mem _
        have hxl : x < st.length := alvL_lt hxm
        have hxa : (st.getD x (0, false, undef)).2.1 = true := by have := (List.mem_filter.1 hxm).2; simpa using this
        obtain ⟨v, hv⟩ := HS.out.v x hxl
        obtain ⟨hg1, hg2⟩ := HS.out.g x hxl
        have hg3 := hg2 hxa
        obtain ⟨g, hg⟩ : ∃ g, (st.getD x (0, false, undef)).1 = g := ⟨_, rfl⟩
        rw [hg] at hg1 hg3
        have hSx : st.getD x (0, false, undef) = (g, true, .int .i64 v) := by
          rw [← hg, ← hxa, ← hv]
        have hsf : SlF w4 a0 N (fun j => .int .i64 (hndI st ((alvL st st.length).getD j 0))) := SlF.of_own O0.out (fun j hj => by
          have hj : j < (alvL st st.length).length := by rw [HNN.out]; exact hj
          simp [hndL, List.getElem?_map, List.getElem?_eq_getElem hj])
        obtain ⟨hb, ho, rfl, ch⟩ := hsf.at_ hmN
        rw [hx] at ch
        have hnd1 : hndI st x = (g : Int) * 65536 + x := by unfold hndI; rw [hSx]
        rw [hnd1] at ch
        have hxn : x < n := by rw [← HSN.out]; exact hxl
        obtain ⟨e1, e2⟩ := hnd_slot (x := x) hg3 hg1 (by omega)
        have hfind := find_hnd hxl hSx hg3 hg1 (by omega)
        have hdrop := Int.tdrop_ok ((g : Int) * 65536 + x) x w4 T4.out hfind e1
        rw [hSx] at hdrop
        have hrd := rd_drop (g := g) (z := .int .i64 0) hxl HF.out
        have HD := Lib.hid hdrop
        have HE1 := Lib.hid e1
        have HE2 := Lib.hid e2
        have HRD := Lib.hid hrd
        have HXL := Lib.hid hxl
        have hc4 : w4.cell? ⟨w.heap.size, 0, none⟩ = some (.slice ga n gc) := by rw [cell_of_block BX4.out]; rfl
        clear hm hN0 hx hxm hxl hxa hv hg2 hg hSx hsf hnd1 e1 e2 hfind hdrop hrd
        go_wp2_with fail
        refine HD.out.mono ?_
        rintro e w5 ⟨rfl, t5, f5⟩
        have T5 := Lib.hid t5
        have X5 := Lib.hid (X4.out.fr f5 (by have := HTl.out; omega) (by have := HTl.out; omega))
        have K5 := Lib.hid (Fr.below K4.out f5 (by omega) (by omega) K4.out.size)
        have BX5 := Lib.hid ((f5.block _ (blk_lt BX4.out) (by omega) (by omega)).trans BX4.out)
        clear t5 f5
        go_wp2_with fail
        refine (slot_ok _ _).mono ?_
        rintro e w6 ⟨rfl, rfl⟩
        rw [HE1.out, HE2.out]
        by_cases hgm : g < 65535
        · have hnx := HRD.out
          rw [if_pos hgm] at hnx
          have hput := Int.tput_ok x 2 w5 T5.out X5.out hnx (by rw [List.length_set]; exact HXL.out)
          rw [getD_set HXL.out, if_pos rfl] at hput
          have HP := Lib.hid hput
          have q1 : ((g : Int) == 65535) = false := by simp; omega
          have q2 : ((((g : Int) + 1) * 65536 + (x : Int)) == 65536 * ((g : Int) + 1) + (x : Int)) = true := by simp; omega
          clear hnx hput
          go_wp2_with fail
          refine HP.out.mono ?_
          rintro e w7 ⟨rfl, t7, f7⟩
          obtain ⟨C, hC⟩ : ∃ C, List.countP alv ((st.set x (g, false, .int .i64 0)).set x (g + 1, true, .int .i64 2)) = C := ⟨_, rfl⟩
          have hCn : C ≤ n := by
            rw [← hC, ← HSN.out]
            refine Nat.le_trans List.countP_le_length ?_
            simp
          have q3 : decide ((n : Int) < (C : Int)) = false := by simp; omega
          have q4 : decide (n < C) = false := by simp; omega
          have HLN : Hid (∀ m, Calls Tryd.prog 24 #[.pointer (some ⟨p, 0, none⟩)] (w7.drewN m) fun e w' => e = .returned (.int .i64 (C : Int)) ∧ w' = w7.drewN m) := Lib.hid (fun m => (Int.len_ok _ (Tg.below t7 (below_draw _ m))).mono fun e w' h => ⟨by rw [← hC]; exact h.1, h.2.symm⟩)
          have X7 := Lib.hid (X5.out.fr f7 (by have := HTl.out; omega) (by have := HTl.out; omega))
          have K7 := Lib.hid (Fr.below K5.out f7 (by omega) (by omega) K5.out.size)
          have bx7 := (f7.block _ (blk_lt BX5.out) (by omega) (by omega)).trans BX5.out
          have c7 : w7.cell? ⟨w.heap.size, 0, none⟩ = some (.slice ga n gc) := by rw [cell_of_block bx7]; rfl
          have HC := Lib.hid hC
          clear t7 f7 bx7 hC
          go_wp2
          go_quiet ((go_at_call 24; exact Calls.quiet_of_same (HLN.out _)))
          go_wp2_with fail
          refine (awake_ok _ (X7.out.below (below_draw _ _))).mono ?_
          rintro e w9 ⟨rfl, b9⟩
          have K9 := Lib.hid ((K7.out.trans ((below_draw w7 nq).mono K7.out.size)).trans (b9.mono (by have := K7.out.size; exact this)))
          clear b9
          go_wp2
          go_ret
          exact ⟨rfl, K9.out⟩
        · have q1 : ((g : Int) == 65535) = true := by simp; omega
          have hnx : ¬ nxt (rdyF (st.set x (g, false, .int .i64 0))) 0 (st.set x (g, false, .int .i64 0)).length < (st.set x (g, false, .int .i64 0)).length := by
            rw [HRD.out, if_neg hgm, List.length_set]; omega
          have HP := Lib.hid (Int.tput_full 2 w5 T5.out X5.out hnx)
          clear hnx hgm
          go_wp2_with fail
          refine HP.out.mono ?_
          rintro e w7 ⟨rfl, b7⟩
          obtain ⟨C, hC⟩ : ∃ C, List.countP alv (st.set x (g, false, .int .i64 0)) = C := ⟨_, rfl⟩
          have hCn : C ≤ n := by
            rw [← hC, ← HSN.out]
            refine Nat.le_trans List.countP_le_length ?_
            simp
          have q3 : decide ((n : Int) < (C : Int)) = false := by simp; omega
          have q4 : decide (n < C) = false := by simp; omega
          have HLN : Hid (∀ m, Calls Tryd.prog 24 #[.pointer (some ⟨p, 0, none⟩)] (w7.drewN m) fun e w' => e = .returned (.int .i64 (C : Int)) ∧ w' = w7.drewN m) := Lib.hid (fun m => (Int.len_ok _ (Tg.below (Tg.below T5.out b7) (below_draw _ m))).mono fun e w' h => ⟨by rw [← hC]; exact h.1, h.2.symm⟩)
          have X7 := Lib.hid (X5.out.below b7)
          have K7 := Lib.hid (K5.out.trans (b7.mono K5.out.size))
          have bx7 := (b7.block _ (blk_lt BX5.out)).trans BX5.out
          have c7 : w7.cell? ⟨w.heap.size, 0, none⟩ = some (.slice ga n gc) := by rw [cell_of_block bx7]; rfl
          have HC := Lib.hid hC
          clear b7 bx7 hC
          go_wp2
          go_quiet ((go_at_call 24; exact Calls.quiet_of_same (HLN.out _)))
          go_wp2_with fail
          refine (awake_ok _ (X7.out.below (below_draw _ _))).mono ?_
          rintro e w9 ⟨rfl, b9⟩
          have K9 := Lib.hid ((K7.out.trans ((below_draw w7 nq).mono K7.out.size)).trans (b9.mono (by have := K7.out.size; exact this)))
          clear b9
          go_wp2
          go_ret
          exact ⟨rfl, K9.out⟩
set_option maxRecDepth 100000 in
set_option maxHeartbeats 1600000 in
theorem law_spent (dr : Nat) (w : World) (hG : SlF w ga n (zI G)) (hA : SlF w aa na (zB A)) (hV : SlF w va nv (zI V)) (hn : n ≤ 9223372036854775807) (hdr : dr ≤ 255) (hT : Tab w) :
    Calls Tryd.prog 8 #[.agg #[.slice ga n gc, .slice aa na ac, .slice va nv vc], .int .u8 (dr : Int)] w fun e w' => e = .returned (.bool true) ∧ Below w.heap.size w w' := by
  have bb := below_box0 w (.cells #[.slice ga n gc, .slice aa na ac, .slice va nv vc] 35)
  by_cases hfar : 60 < n
  · have d1 : decide ((60 : Int) < (n : Int)) = true := by simp; omega
    have d2 : decide (60 < n) = true := by simpa using hfar
    have HB := Lib.hid bb
    have HT := Lib.hid (hT.below bb)
    clear bb hfar hT hG hA hV
    go_enter Tryd.func8, Tryd.ntmps8
    go_wp2_with fail
    refine (awake_ok _ HT.out).mono ?_
    rintro e w1 ⟨rfl, b1⟩
    have HB1 := Lib.hid (HB.out.trans (b1.mono (by simp)))
    clear b1
    go_wp2
    go_ret
    exact ⟨rfl, HB1.out⟩
  · by_cases he : hcE n na nv G A = 0
    · obtain ⟨-, -, rfl, rfl, -⟩ := hcE_zero he
      exact law_spent_ok dr w hG hA hV (by omega) hdr he hT
    · have d1 : decide ((60 : Int) < (n : Int)) = false := by simp; omega
      have d2 : decide (60 < n) = false := by simpa using hfar
      have hb := bne0_true he
      have HE := Lib.hid he
      have HB := Lib.hid bb
      have HT := Lib.hid (hT.below bb)
      have HG := Lib.hid (hG.below bb)
      have HA := Lib.hid (hA.below bb)
      clear bb hfar hT hG hA hV he
      go_enter Tryd.func8, Tryd.ntmps8
      go_wp2_with fail
      refine (Int.load_err _ HG.out HA.out HE.out).mono ?_
      rintro e w1 ⟨rfl, b1⟩
      have HB1 := Lib.hid (HB.out.trans (b1.mono (by simp)))
      have HT1 := Lib.hid (HT.out.below b1)
      clear b1
      go_wp2_with fail
      refine (awake_ok _ HT1.out).mono ?_
      rintro e w2 ⟨rfl, b2⟩
      have HB2 := Lib.hid (HB1.out.trans (b2.mono HB1.out.size))
      clear b2
      go_wp2
      go_ret
      exact ⟨rfl, HB2.out⟩
end
end Go.Proofs.YtpaecmpiokkdnaaDoor

namespace Go.Proofs.YtpaecmpiokkdnaaDoor
open Go.RowKit Go.Sort Go.Joins

/-- a handle that was given, whether it is alive, its value -/
abbrev Kn := Int × Bool × Int
abbrev sAt (st : List Slt) (x : Nat) : Slt := st.getD x (0, false, undef)
structure KAt (st : List Slt) (t : Kn) (x g : Nat) : Prop where
  h : t.1 = (g : Int) * 65536 + x
  g1 : 1 ≤ g
  x1 : x < st.length
  g2 : g ≤ (sAt st x).1
  al : t.2.1 = decide (g = (sAt st x).1 ∧ (sAt st x).2.1 = true)
  v : t.2.1 = true → (sAt st x).2.2 = .int .i64 t.2.2
structure KI (st : List Slt) (K : List Kn) : Prop where
  n : st.length ≤ 60
  gb : ∀ j, j < st.length → (sAt st j).1 ≤ 65535
  vs : ∀ j, j < st.length → ∃ z : Int, (sAt st j).2.2 = .int .i64 z
  nd : K.Pairwise fun s t => s.1 ≠ t.1
  at_ : ∀ t ∈ K, ∃ x g, KAt st t x g
theorem KAt.slot {st : List Slt} {t : Kn} {x g : Nat} (h : KAt st t x g) (hb : (sAt st x).1 ≤ 65535) (hn : st.length ≤ 60) : slotI t.1 = x ∧ numI t.1 = g := by
  rw [h.h]
  exact hnd_slot h.g1 (Nat.le_trans h.g2 hb) (by have := h.x1; omega)
theorem KAt.alive {st : List Slt} {t : Kn} {x g : Nat} (h : KAt st t x g) (hb : (sAt st x).1 ≤ 65535) (hn : st.length ≤ 60) (ha : t.2.1 = true) : findE st t.1 = 0 ∧ slotI t.1 = x ∧ sAt st x = (g, true, .int .i64 t.2.2) := by
  obtain ⟨e1, e2⟩ := h.slot hb hn
  have hv := h.v ha
  have hal := h.al
  rw [ha] at hal
  have := of_decide_eq_true hal.symm
  obtain ⟨rfl, h2⟩ := this
  refine ⟨(find_yes (q := 0) e1 h.x1 (by rw [e2]; exact Int.lt_irrefl _) (by rw [e2]; exact Int.lt_irrefl _) h2).2.symm, e1, ?_⟩
  rw [← h2, ← hv]
theorem KAt.dead {st : List Slt} {t : Kn} {x g : Nat} (h : KAt st t x g) (hb : (sAt st x).1 ≤ 65535) (hn : st.length ≤ 60) (ha : t.2.1 = false) : findE st t.1 = 160 := by
  obtain ⟨e1, e2⟩ := h.slot hb hn
  have hal := h.al
  rw [ha] at hal
  have hal := of_decide_eq_false hal.symm
  have hg := h.g2
  refine (find_old (q := 0) e1 h.x1 (by rw [e2]; have : g ≤ (st.getD x (0, false, undef)).1 := hg; omega) ?_).2.symm
  rw [e2]
  by_cases h2 : (sAt st x).2.1 = true
  · left
    have : g ≠ (sAt st x).1 := fun e => hal ⟨e, h2⟩
    have h3 : g < (sAt st x).1 := by omega
    have h4 : g < (st.getD x (0, false, undef)).1 := h3
    omega
  · right; simpa using h2
theorem sAt_set {st : List Slt} {i j : Nat} {s : Slt} (hi : i < st.length) : sAt (st.set i s) j = if i = j then s else sAt st j := getD_set hi
/-- a handle that is kept when a slot is changed -/
theorem KAt.keep {st : List Slt} {t : Kn} {x g i : Nat} {s : Slt} (h : KAt st t x g) (hi : i < st.length) (hg : x = i → (sAt st i).1 ≤ s.1) (ha : x = i → t.2.1 = decide (g = s.1 ∧ s.2.1 = true)) (hv : x = i → t.2.1 = true → s.2.2 = .int .i64 t.2.2) : KAt (st.set i s) t x g := by
  refine ⟨h.h, h.g1, by simpa using h.x1, ?_, ?_, ?_⟩
  · rw [sAt_set hi]
    by_cases e : i = x
    · subst e; rw [if_pos rfl]; exact Nat.le_trans h.g2 (hg rfl)
    · rw [if_neg e]; exact h.g2
  · rw [sAt_set hi]
    by_cases e : i = x
    · subst e; rw [if_pos rfl]; exact ha rfl
    · rw [if_neg e]; exact h.al
  · rw [sAt_set hi]
    by_cases e : i = x
    · subst e; rw [if_pos rfl]; exact hv rfl
    · rw [if_neg e]; exact h.v
theorem KAt.inj {st : List Slt} {s t : Kn} {x g y k : Nat} (h : KAt st s x g) (h2 : KAt st t y k) (hn : st.length ≤ 60) (e : s.1 = t.1) : x = y ∧ g = k := by
  have h3 := h.h; have h4 := h2.h; have h5 := h.x1; have h6 := h2.x1
  rw [h3, h4] at e
  omega
theorem KI.bounds {st : List Slt} {i : Nat} {s : Slt} (h : ∀ j, j < st.length → (sAt st j).1 ≤ 65535) (hs : s.1 ≤ 65535) (hi : i < st.length) : ∀ j, j < (st.set i s).length → (sAt (st.set i s) j).1 ≤ 65535 := fun j hj => by
  rw [List.length_set] at hj
  rw [sAt_set hi]
  by_cases e : i = j
  · rw [if_pos e]; exact hs
  · rw [if_neg e]; exact h j hj
theorem KI.vals {st : List Slt} {i : Nat} {s : Slt} (h : ∀ j, j < st.length → ∃ z : Int, (sAt st j).2.2 = .int .i64 z) (hs : ∃ z : Int, s.2.2 = .int .i64 z) (hi : i < st.length) : ∀ j, j < (st.set i s).length → ∃ z : Int, (sAt (st.set i s) j).2.2 = .int .i64 z := fun j hj => by
  rw [List.length_set] at hj
  rw [sAt_set hi]
  by_cases e : i = j
  · rw [if_pos e]; exact hs
  · rw [if_neg e]; exact h j hj
/-- Put: the handle is a new one -/
theorem KI.put {st : List Slt} {K : List Kn} (h : KI st K) {i g : Nat} (hi : i < st.length) (hg : (sAt st i).1 = g) (hg9 : g < 65535) (ha : (sAt st i).2.1 = false) (v : Int) :
    KI (st.set i (g + 1, true, .int .i64 v)) (K ++ [(((g : Int) + 1) * 65536 + i, true, v)]) ∧ ∀ t ∈ K, t.1 ≠ ((g : Int) + 1) * 65536 + i := by
  have hnew : ∀ t ∈ K, t.1 ≠ ((g : Int) + 1) * 65536 + i := fun t ht e => by
    obtain ⟨x, k, hk⟩ := h.at_ t ht
    have h1 := hk.h; have h2 := hk.x1; have h3 := hk.g2; have := h.n
    rw [h1] at e
    have e1 : x = i := by omega
    subst e1
    omega
  refine ⟨⟨by simpa using h.n, KI.bounds h.gb (by dsimp only; omega) hi, KI.vals h.vs ⟨v, rfl⟩ hi, ?_, ?_⟩, hnew⟩
  · rw [List.pairwise_append]
    refine ⟨h.nd, List.pairwise_singleton _ _, fun t ht s hs => ?_⟩
    rw [List.mem_singleton] at hs
    subst hs
    exact hnew t ht
  · intro t ht
    rw [List.mem_append, List.mem_singleton] at ht
    rcases ht with ht | rfl
    · obtain ⟨x, k, hk⟩ := h.at_ t ht
      have hal := hk.al
      have hg2 := hk.g2
      refine ⟨x, k, hk.keep hi (fun _ => by dsimp only; omega) (fun e => ?_) (fun e ht => ?_)⟩
      · subst e
        rw [hal, ha]
        rw [hg] at hg2
        simp; omega
      · subst e
        rw [hal, ha] at ht
        simp at ht
    · refine ⟨i, g + 1, by dsimp only; omega, by omega, by simpa using hi, ?_, ?_, ?_⟩
      · rw [sAt_set hi, if_pos rfl]; exact Nat.le_refl _
      · rw [sAt_set hi, if_pos rfl]; simp
      · rw [sAt_set hi, if_pos rfl]; exact fun _ => rfl
theorem set_mem {K : List Kn} {a : Nat} {u t : Kn} (ht : t ∈ K.set a u) : t = u ∨ ∃ b, b ≠ a ∧ K[b]? = some t := by
  obtain ⟨b, hb⟩ := List.mem_iff_getElem?.1 ht
  rw [List.getElem?_set] at hb
  by_cases e : a = b
  · rw [if_pos e] at hb
    split at hb
    · left; simpa using hb.symm
    · cases hb
  · rw [if_neg e] at hb
    exact .inr ⟨b, fun e' => e e'.symm, hb⟩
theorem pair_ne {K : List Kn} (h : K.Pairwise fun s t => s.1 ≠ t.1) {a b : Nat} {s t : Kn} (ha : K[a]? = some s) (hb : K[b]? = some t) (hab : b ≠ a) : t.1 ≠ s.1 := by
  rw [List.pairwise_iff_getElem] at h
  obtain ⟨la, ea⟩ := List.getElem?_eq_some_iff.1 ha
  obtain ⟨lb, eb⟩ := List.getElem?_eq_some_iff.1 hb
  rcases Nat.lt_or_gt_of_ne hab with h1 | h1
  · have := h b a lb la h1
    rw [ea, eb] at this; exact this
  · have := h a b la lb h1
    rw [ea, eb] at this; exact fun e => this e.symm
theorem pair_set {K : List Kn} (h : K.Pairwise fun s t => s.1 ≠ t.1) {a : Nat} {t u : Kn} (ha : K[a]? = some t) (hu : u.1 = t.1) : (K.set a u).Pairwise fun s t => s.1 ≠ t.1 := by
  rw [List.pairwise_iff_getElem] at h ⊢
  intro i j hi hj hij
  rw [List.length_set] at hi hj
  obtain ⟨la, ea⟩ := List.getElem?_eq_some_iff.1 ha
  have := h i j hi hj hij
  rw [List.getElem_set, List.getElem_set]
  by_cases e1 : a = i
  · subst e1
    rw [if_pos rfl, if_neg (by omega), hu, ← ea]; exact this
  · rw [if_neg e1]
    by_cases e2 : a = j
    · subst e2; rw [if_pos rfl, hu, ← ea]; exact this
    · rw [if_neg e2]; exact this
/-- the slot of one handle is changed (Set, Drop) -/
theorem KI.change {st : List Slt} {K : List Kn} (h : KI st K) {a x g : Nat} {t : Kn} (hat : K[a]? = some t) (hk : KAt st t x g) (hg : (sAt st x).1 = g) (hal : (sAt st x).2.1 = true) (b : Bool) (v z : Int) (hv : b = true → z = v) :
    KI (st.set x (g, b, .int .i64 z)) (K.set a (t.1, b, v)) := by
  have hx := hk.x1
  have hgb := h.gb x hx
  refine ⟨by simpa using h.n, KI.bounds h.gb (by dsimp only; omega) hx, KI.vals h.vs ⟨z, rfl⟩ hx, pair_set h.nd hat rfl, ?_⟩
  intro s hs
  rcases set_mem hs with rfl | ⟨c, hc, hcs⟩
  · refine ⟨x, g, hk.h, hk.g1, by simpa using hx, ?_, ?_, ?_⟩
    · rw [sAt_set hx, if_pos rfl]; exact Nat.le_refl _
    · rw [sAt_set hx, if_pos rfl]; simp
    · rw [sAt_set hx, if_pos rfl]; exact fun hb => by rw [← hv hb]
  · obtain ⟨y, k, hy⟩ := h.at_ s (List.mem_iff_getElem?.2 ⟨c, hcs⟩)
    have hne := pair_ne h.nd hat hcs hc
    have hyk : ¬ (y = x ∧ k = g) := fun e => hne (by rw [hy.h, hk.h, e.1, e.2])
    have h2 := hy.g2
    have h3 := hy.al
    refine ⟨y, k, hy.keep hx (fun _ => by dsimp only; omega) (fun e => ?_) (fun e ht => ?_)⟩
    · subst e
      rw [h3, hg]
      have : k ≠ g := fun e => hyk ⟨rfl, e⟩
      simp [this]
    · subst e
      rw [h3, hg] at ht
      exact absurd ⟨rfl, (of_decide_eq_true ht).1⟩ hyk
/-- at the beginning: those that are alive -/
def knL (st : List Slt) (l : List Nat) : List Kn := l.map fun i => (hndI st i, true, match (sAt st i).2.2 with | .int .i64 z => z | _ => 0)
theorem KI.start {st : List Slt} (hn : st.length ≤ 60) (hg : ∀ j, j < st.length → (sAt st j).1 ≤ 65535 ∧ ((sAt st j).2.1 = true → 1 ≤ (sAt st j).1)) (hv : ∀ j, j < st.length → ∃ z : Int, (sAt st j).2.2 = .int .i64 z) : KI st (knL st (alvL st st.length)) := by
  refine ⟨hn, fun j hj => (hg j hj).1, hv, ?_, ?_⟩
  · unfold knL
    rw [List.pairwise_map]
    have h1 : (alvL st st.length).Pairwise (· < ·) := by unfold alvL; exact List.Pairwise.filter _ List.pairwise_lt_range
    refine List.Pairwise.imp_of_mem ?_ h1
    intro a b ha hb hlt e
    have l1 := alvL_lt ha
    have l2 := alvL_lt hb
    dsimp only [hndI] at e
    omega
  · intro t ht
    unfold knL at ht
    obtain ⟨i, hi, rfl⟩ := List.mem_map.1 ht
    have l1 := alvL_lt hi
    have h2 : (sAt st i).2.1 = true := by have := (List.mem_filter.1 hi).2; simpa using this
    obtain ⟨z, hz⟩ := hv i l1
    refine ⟨i, (sAt st i).1, rfl, (hg i l1).2 h2, l1, Nat.le_refl _, (decide_eq_true ⟨rfl, h2⟩).symm, fun _ => ?_⟩
    rw [hz]
/-- where a handle is known last -/
def AtR (K : List Kn) (h : Int) (n : Nat) (at_ : Int) : Prop := (at_ = -1 ∧ ∀ k, k < n → (K.getD k (0, false, 0)).1 ≠ h) ∨ ∃ a : Nat, at_ = a ∧ a < n ∧ (K.getD a (0, false, 0)).1 = h
theorem AtR.zero (K : List Kn) (h : Int) : AtR K h 0 (-1) := .inl ⟨rfl, fun k hk => by omega⟩
theorem AtR.yes {K : List Kn} {h : Int} {n : Nat} (e : (K.getD n (0, false, 0)).1 = h) : AtR K h (n + 1) (n : Int) := .inr ⟨n, rfl, by omega, e⟩
theorem AtR.no {K : List Kn} {h : Int} {n : Nat} {a : Int} (H : AtR K h n a) (e : (K.getD n (0, false, 0)).1 ≠ h) : AtR K h (n + 1) a := by
  rcases H with ⟨rfl, H⟩ | ⟨b, rfl, hb, e'⟩
  · refine .inl ⟨rfl, fun k hk => ?_⟩
    by_cases e2 : k = n
    · subst e2; exact e
    · exact H k (by omega)
  · exact .inr ⟨b, rfl, by omega, e'⟩
/-- which handle a call names -/
def hndC (H : Int) (o : Nat) (K : List Kn) : Int := if o = 0 ∨ K.length = 0 then H else (K.getD (K.length - 1 - (o - 1) % K.length) (0, false, 0)).1
end Go.Proofs.YtpaecmpiokkdnaaDoor
