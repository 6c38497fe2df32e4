/- Handles: what lies in memory while HandlesWalks walks; plain facts of it. | Handles: the reference's Len and Room, over states that read as lists of slots. | Rows of the call's own: a cell is stored in place. No program. | Regions that draw their order inside a fence: an invariant of what is done; append at a step. No program. -/
import Derived.Test.YtpaecmpiokkdnaaDoorTypesZ14
import Derived.Test.YtpaecmpiokkdnaaDoorTypesZ15
import Derived.Test.YtpaecmpiokkdnaaDoorTypesZ12
import Derived.Test.YtpaecmpiokkdnaaDoorTypesZ9
import Derived.OwnWalkIn
import Derived.OrdersIn
namespace Go.Proofs.YtpaecmpiokkdnaaDoor
open Go.RowKit Go.Sort Go.Joins Go.Shelf
attribute [local go_sem] cell_grow frozen_grow size_grow

theorem own_stays' {W W' : World} {base : Nat} {e : TypeId} {size : Nat} {v : Value} {n : Nat} {xs : List Value} {row : Option Nat} (h : W.ownsRow base e size v n xs) (hg : W.grownBy W' row) (hr : ∀ r, row = some r → ∃ o : Obj, W.heap[r]? = some o ∧ o.isCells = false) : W'.ownsRow base e size v n xs := by
  refine h.kept hg ?_
  rcases h.2 with ⟨rfl, _⟩ | ⟨g, cap, cur, rfl, _, hgb, _⟩
  · exact .inl rfl
  · refine .inr fun hx => ?_
    obtain ⟨o, ho, hc⟩ := hr g hx.symm
    rw [hgb] at ho
    cases ho
    simp [Obj.isCells] at hc
theorem blk_kept {W W' : World} {row : Option Nat} {k : Nat} {cs : Array Value} {t : TypeId} (h : W.heap[k]? = some (.cells cs t (0, 0))) (hg : W.grownBy W' row) (hr : ∀ r, row = some r → ∃ o : Obj, W.heap[r]? = some o ∧ o.isCells = false) : W'.heap[k]? = some (.cells cs t (0, 0)) :=
  (grownBy_keeps_cells hg hr h rfl).trans h
section
variable {TBL SLOT : TypeId} {W W' : World} {B p q : Nat} {st : List Slt} {m : Nat} {r : Nat → Bool}
theorem Tb.set_other (h : Tb TBL SLOT W B p q st m r) {k j : Nat} {cs : Array Value} {t : TypeId} (hk : W.heap[k]? = some (.cells cs t (0, 0))) (ht : 144 ≠ t) (hp : p ≠ k) (hq : q ≠ k) (v : Value) : Tb TBL SLOT (W.setCell ⟨k, j, none⟩ v) B p q st m r := by
  obtain ⟨ra, rcap, h1, h2⟩ := h.tbl
  refine ⟨h.hp, h.hq, h.ne, h.n1, h.n2, ⟨ra, rcap, ?_, ?_⟩, ?_, h.rb⟩
  · rw [Below.heap_setCell _ _ _ _ hp]; exact h1
  · exact ownsRow_setCell_other h2 (a := ⟨k, j, none⟩) (own_ne h2 hk ht) v
  · rw [Below.heap_setCell _ _ _ _ hq]; exact h.slots
theorem Tb.kept (h : Tb TBL SLOT W B p q st m r) {row : Option Nat} (hg : W.grownBy W' row) (hr : ∀ r, row = some r → ∃ o : Obj, W.heap[r]? = some o ∧ o.isCells = false) : Tb TBL SLOT W' B p q st m r := by
  obtain ⟨ra, rcap, h1, h2⟩ := h.tbl
  exact ⟨h.hp, h.hq, h.ne, h.n1, h.n2, ⟨ra, rcap, blk_kept h1 hg hr, own_stays' h2 hg hr⟩, blk_kept h.slots hg hr, h.rb⟩
end
theorem KeepsFrom.of_fr {p q B : Nat} {W W' : World} (h : Fr p q W W') (hp : p < B) (hq : q < B) : KeepsFrom B W W' :=
  ⟨h.size, fun k o hk ho _ => (h.block k (Array.getElem?_eq_some_iff.1 ho).1 (by omega) (by omega)).trans ho⟩

/-- what lies in memory -/
structure WM (w W : World) (r0 r1 r2 r3 : Value) (M B p q : Nat) (st' : List Slt) (i d L : Int) : Prop where
  t : Int.TT W B p q st'
  b2 : W.heap[w.heap.size]? = some (.cells #[r0, r1, r2] 35 (0, 0))
  b3 : W.heap[w.heap.size + 1]? = some (.cells #[r3] 33 (0, 0))
  b4 : W.heap[w.heap.size + 1 + 1]? = some (.cells #[.bool false] 4 (0, 0))
  b5 : W.heap[M]? = some (.cells #[.pointer (some ⟨p, 0, none⟩)] 24 (0, 0))
  b7 : W.heap[M + 1]? = some (.cells #[.int .i64 i] 3 (0, 0))
  b8 : W.heap[M + 1 + 1]? = some (.cells #[.int .i64 d] 3 (0, 0))
  b9 : W.heap[M + 1 + 1 + 1]? = some (.cells #[.int .i64 L] 3 (0, 0))
  bt : W.heap[M + 1 + 1 + 1 + 1]? = some (.cells #[.pointer (some ⟨p, 0, none⟩)] 24 (0, 0))
  hp : w.heap.size + 3 ≤ p
  hq : w.heap.size + 3 ≤ q
  pM : p < M
  qM : q < M
  tab : Tab W
  tl : 0 < w.heap.size
  k : Below w.heap.size w W
section
variable {w W W' : World} {r0 r1 r2 r3 : Value} {M B p q : Nat} {st' st2 : List Slt} {i d L : Int}
theorem Tab.blk {k j : Nat} (h : Tab W) (hk : 0 ≠ k) (v : Value) : Tab (W.setCell ⟨k, j, none⟩ v) := fun x hx => by
  rw [World.cell?_of_block (w := W) (Below.heap_setCell _ _ _ _ hk)]
  exact h x hx
theorem WM.set7 (h : WM w W r0 r1 r2 r3 M B p q st' i d L) (i' : Int) : WM w (W.setCell ⟨M + 1, 0, none⟩ (.int .i64 i')) r0 r1 r2 r3 M B p q st' i' d L := by
  have h1 := h.hp; have h2 := h.hq; have h3 := h.pM; have h4 := h.qM; have h5 := h.tl
  have N : ∀ k, k ≠ M + 1 → (W.setCell ⟨M + 1, 0, none⟩ (.int .i64 i')).heap[k]? = W.heap[k]? := fun k hk => Below.heap_setCell _ _ _ _ hk
  exact ⟨Tb.set_other h.t h.b7 (by decide) (by omega) (by omega) _, (N _ (by omega)).trans h.b2, (N _ (by omega)).trans h.b3, (N _ (by omega)).trans h.b4, (N _ (by omega)).trans h.b5, by rw [setCell_block h.b7]; rfl, (N _ (by omega)).trans h.b8, (N _ (by omega)).trans h.b9, (N _ (by omega)).trans h.bt, h1, h2, h3, h4, h.tab.blk (by omega) _, h5, h.k.setCell (p := ⟨M + 1, 0, none⟩) (by dsimp only; omega) _⟩
theorem WM.set8 (h : WM w W r0 r1 r2 r3 M B p q st' i d L) (d' : Int) : WM w (W.setCell ⟨M + 1 + 1, 0, none⟩ (.int .i64 d')) r0 r1 r2 r3 M B p q st' i d' L := by
  have h1 := h.hp; have h2 := h.hq; have h3 := h.pM; have h4 := h.qM; have h5 := h.tl
  have N : ∀ k, k ≠ M + 1 + 1 → (W.setCell ⟨M + 1 + 1, 0, none⟩ (.int .i64 d')).heap[k]? = W.heap[k]? := fun k hk => Below.heap_setCell _ _ _ _ hk
  exact ⟨Tb.set_other h.t h.b8 (by decide) (by omega) (by omega) _, (N _ (by omega)).trans h.b2, (N _ (by omega)).trans h.b3, (N _ (by omega)).trans h.b4, (N _ (by omega)).trans h.b5, (N _ (by omega)).trans h.b7, by rw [setCell_block h.b8]; rfl, (N _ (by omega)).trans h.b9, (N _ (by omega)).trans h.bt, h1, h2, h3, h4, h.tab.blk (by omega) _, h5, h.k.setCell (p := ⟨M + 1 + 1, 0, none⟩) (by dsimp only; omega) _⟩
theorem WM.set9 (h : WM w W r0 r1 r2 r3 M B p q st' i d L) (L' : Int) : WM w (W.setCell ⟨M + 1 + 1 + 1, 0, none⟩ (.int .i64 L')) r0 r1 r2 r3 M B p q st' i d L' := by
  have h1 := h.hp; have h2 := h.hq; have h3 := h.pM; have h4 := h.qM; have h5 := h.tl
  have N : ∀ k, k ≠ M + 1 + 1 + 1 → (W.setCell ⟨M + 1 + 1 + 1, 0, none⟩ (.int .i64 L')).heap[k]? = W.heap[k]? := fun k hk => Below.heap_setCell _ _ _ _ hk
  exact ⟨Tb.set_other h.t h.b9 (by decide) (by omega) (by omega) _, (N _ (by omega)).trans h.b2, (N _ (by omega)).trans h.b3, (N _ (by omega)).trans h.b4, (N _ (by omega)).trans h.b5, (N _ (by omega)).trans h.b7, (N _ (by omega)).trans h.b8, by rw [setCell_block h.b9]; rfl, (N _ (by omega)).trans h.bt, h1, h2, h3, h4, h.tab.blk (by omega) _, h5, h.k.setCell (p := ⟨M + 1 + 1 + 1, 0, none⟩) (by dsimp only; omega) _⟩
theorem WM.drop (h : WM w W r0 r1 r2 r3 M B p q st' i d L) (ht : Int.TT W' B p q st2) (hf : Fr p q W W') : WM w W' r0 r1 r2 r3 M B p q st2 i d L := by
  have h1 := h.hp; have h2 := h.hq; have h3 := h.pM; have h4 := h.qM; have h5 := h.tl
  have N : ∀ {k : Nat} {o : Obj}, W.heap[k]? = some o → k ≠ p → k ≠ q → W'.heap[k]? = some o := fun ho hp hq => (hf.block _ (blk_lt ho) hp hq).trans ho
  exact ⟨ht, N h.b2 (by omega) (by omega), N h.b3 (by omega) (by omega), N h.b4 (by omega) (by omega), N h.b5 (by omega) (by omega), N h.b7 (by omega) (by omega), N h.b8 (by omega) (by omega), N h.b9 (by omega) (by omega), N h.bt (by omega) (by omega), h1, h2, h3, h4, h.tab.fr hf (by omega) (by omega), h5,
    Fr.below h.k hf (by omega) (by omega) h.k.size⟩
theorem WM.kept (h : WM w W r0 r1 r2 r3 M B p q st' i d L) {row : Option Nat} {Z : Nat} (hZ : w.heap.size ≤ Z) (hg : W.grownBy W' row) (hr : ∀ r, row = some r → Z ≤ r ∧ ∃ o : Obj, W.heap[r]? = some o ∧ o.isCells = false) : WM w W' r0 r1 r2 r3 M B p q st' i d L := by
  have hr2 := fun r e => (hr r e).2
  exact ⟨Tb.kept h.t hg hr2, blk_kept h.b2 hg hr2, blk_kept h.b3 hg hr2, blk_kept h.b4 hg hr2, blk_kept h.b5 hg hr2, blk_kept h.b7 hg hr2, blk_kept h.b8 hg hr2, blk_kept h.b9 hg hr2, blk_kept h.bt hg hr2, h.hp, h.hq, h.pM, h.qM, fun x hx => cell_kept (h.tab x hx) hg hr2, h.tl,
    h.k.grown hg h.k.size (fun r e => by have := (hr r e).1; omega)⟩
theorem WM.below (h : WM w W r0 r1 r2 r3 M B p q st' i d L) (hb : Below W.heap.size W W') : WM w W' r0 r1 r2 r3 M B p q st' i d L := by
  have N : ∀ {k : Nat} {o : Obj}, W.heap[k]? = some o → W'.heap[k]? = some o := fun ho => (hb.block _ (blk_lt ho)).trans ho
  exact ⟨Tb.below h.t hb, N h.b2, N h.b3, N h.b4, N h.b5, N h.b7, N h.b8, N h.b9, N h.bt, h.hp, h.hq, h.pM, h.qM, h.tab.below hb, h.tl, h.k.trans (hb.mono h.k.size)⟩
end
/-- what is known of the slots -/
structure WP (st : List Slt) (pre : List Nat) (st' : List Slt) (d : Nat) (L : Int) : Prop where
  len : st'.length = st.length
  same : ∀ j, j ∉ pre → st'.getD j (0, false, undef) = st.getD j (0, false, undef)
  cnt : st'.countP alv + d = st.countP alv
  lst : ∀ j : Nat, (∀ i ∈ pre, i < j) → L < (j : Int)
theorem WP.start (st : List Slt) : WP st [] st 0 (-1) := ⟨rfl, fun _ _ => rfl, rfl, fun j _ => by omega⟩
theorem WP.keep {st : List Slt} {pre : List Nat} {st' : List Slt} {d : Nat} {L : Int} {x : Nat} (h : WP st pre st' d L) : WP st (pre ++ [x]) st' d (x : Int) :=
  ⟨h.len, fun j hj => h.same j (fun hm => hj (by simp [hm])), h.cnt, fun j hj => by have := hj x (by simp); omega⟩
theorem WP.drop {st : List Slt} {pre : List Nat} {st' : List Slt} {d : Nat} {L : Int} {x : Nat} (h : WP st pre st' d L) (hx : x < st'.length) (hal : (st'.getD x (0, false, undef)).2.1 = true) (g : Nat) (z : Value) : WP st (pre ++ [x]) (st'.set x (g, false, z)) (d + 1) (x : Int) := by
  refine ⟨by simpa using h.len, fun j hj => ?_, ?_, fun j hj => by have := hj x (by simp); omega⟩
  · have hne : x ≠ j := fun e => hj (by simp [e])
    rw [List.getD_eq_getElem?_getD, List.getElem?_set_ne hne, ← List.getD_eq_getElem?_getD]
    exact h.same j (fun hm => hj (by simp [hm]))
  · have := Int.countP_at hx (g, false, z)
    rw [hal] at this
    simp only [Bool.false_eq_true, ↓reduceIte] at this
    have := h.cnt
    omega
theorem hnd_slot {g x : Nat} (h1 : 1 ≤ g) (h2 : g ≤ 65535) (h3 : x < 65536) : slotI ((g : Int) * 65536 + x) = x ∧ numI ((g : Int) * 65536 + x) = g := by
  unfold slotI numI
  rw [if_neg (by omega), if_neg (by omega)]
  omega
theorem find_hnd {st' : List Slt} {x g : Nat} {v : Value} (hx : x < st'.length) (hs : st'.getD x (0, false, undef) = (g, true, v)) (h1 : 1 ≤ g) (h2 : g ≤ 65535) (h3 : x < 65536) : findE st' ((g : Int) * 65536 + x) = 0 := by
  obtain ⟨e1, e2⟩ := hnd_slot h1 h2 h3
  exact (find_yes (q := 0) e1 hx (by rw [hs, e2]; simp) (by rw [hs, e2]; simp) (by rw [hs])).2.symm
end Go.Proofs.YtpaecmpiokkdnaaDoor

namespace Go.Proofs.YtpaecmpiokkdnaaDoor
open Go.RowKit Go.Sort Go.Joins
attribute [local go_sem] cell_grow frozen_grow size_grow

def cntF (f : Slt → Bool) (st : List Slt) (k : Nat) : Nat := cnt (fun j => f (st.getD j (0, false, undef))) 0 k
theorem cnt_st (f : Slt → Bool) (st : List Slt) : cntF f st st.length = st.countP f := by
  have h : ∀ k, k ≤ st.length → cnt (fun j => f (st.getD j (0, false, undef))) 0 k = (st.take k).countP f := by
    intro k
    induction k with
    | zero => intro _; simp [cnt]
    | succ k ih =>
      intro hk
      rw [List.take_succ_eq_append_getElem (by omega), List.countP_append]
      have e : st.getD k (0, false, undef) = st[k] := by simp [List.getD_eq_getElem?_getD, show k < st.length by omega]
      simp only [cnt, ih (by omega), e]
      cases hf : f st[k] <;> simp [hf]
  unfold cntF
  rw [h _ (Nat.le_refl _), List.take_length]
section
variable {st : List Slt} {ga aa va : Option Addr} {gc ac vc : Nat}
set_option maxRecDepth 100000 in
set_option maxHeartbeats 1600000 in
theorem rlen_ok (w : World) (hr : RA w st ga aa va) (hn : st.length ≤ 1024) :
    Calls Tryd.prog 73 #[.agg #[.slice ga st.length gc, .slice aa st.length ac, .slice va st.length vc]] w fun e w' => e = .returned (.int .i64 ((st.countP alv : Nat) : Int)) ∧ Below w.heap.size w w' := by
  have hb := below_box0 w (.cells #[.slice ga st.length gc, .slice aa st.length ac, .slice va st.length vc] 35)
  have HB := Lib.hid hb
  have HA := Lib.hid (hr.a.below hb)
  have HC := Lib.hid (cnt_st alv st)
  obtain ⟨n, hnn⟩ : ∃ n, st.length = n := ⟨_, rfl⟩
  rw [hnn] at HA HB HC hn ⊢
  have HN := Lib.hid hnn
  rw [← HC.out]
  clear hb hr hnn
  go_enter Tryd.func73, Tryd.ntmps73
  go_wp2
  go_loop [3, 4] (fun m i => ∃ k : Nat, k ≤ n ∧ i = .int .i64 k ∧ m = .int .i64 ((cntF alv st k : Nat) : Int)) (fun _ i => n - (intOf i).toNat)
  case atStart => exact ⟨0, Nat.zero_le _, rfl, rfl⟩
  case round =>
    obtain ⟨k, hk, rfl, rfl⟩ := hrel
    obtain ⟨c, hc⟩ : ∃ c, cntF alv st k = c := ⟨_, rfl⟩
    have hcb : c ≤ k := by rw [← hc]; exact cnt_le _ 0 k
    have hstep : cntF alv st (k + 1) = c + (if alv (st.getD k (0, false, undef)) = true then 1 else 0) := by rw [← hc]; simp only [cntF, cnt, Nat.zero_le, true_and]
    have HS := Lib.hid hstep
    have HCC := Lib.hid hc
    rw [hc]
    clear hstep hc
    by_cases hlt : k < n
    · obtain ⟨ab, ao, haa, ca⟩ := HA.out.at_ hlt
      have HAA := Lib.hid haa
      obtain ⟨al, hal⟩ : ∃ al, (st.getD k (0, false, undef)).2.1 = al := ⟨_, rfl⟩
      dsimp only [zB, aF] at ca
      rw [hal] at ca
      have HAL := Lib.hid hal
      have n1 : decide ((k : Int) < (n : Int)) = true := by simp; omega
      have n2 : decide (k < n) = true := by simpa using hlt
      have n3 : (k : Int) < (n : Int) := by omega
      have n0 : (0 : Int) ≤ (k : Int) := by omega
      clear hal haa
      have e1 := HAA.out
      subst e1
      cases al with
      | true =>
        go_wp2
        go_round
        case rel => exact ⟨k + 1, by omega, by go_num, by rw [HS.out, show alv (st.getD k (0, false, undef)) = true from HAL.out]; simp⟩
        case measure => simp [intOf]; omega
      | false =>
        go_wp2
        go_round
        case rel => exact ⟨k + 1, by omega, by go_num, by rw [HS.out, show alv (st.getD k (0, false, undef)) = false from HAL.out]; simp⟩
        case measure => simp [intOf]; omega
    · have n1 : decide ((k : Int) < (n : Int)) = false := by simp; omega
      have n2 : decide (k < n) = false := by simpa using hlt
      obtain rfl : k = n := by omega
      have R := Lib.hid HCC.out
      go_wp2
      go_ret
      exact ⟨by show Ending.returned (.int .i64 ((c : Nat) : Int)) = _; rw [R.out], HB.out⟩
set_option maxRecDepth 100000 in
set_option maxHeartbeats 1600000 in
theorem rroom_ok (w : World) (hr : RA w st ga aa va) (hn : st.length ≤ 1024) :
    Calls Tryd.prog 74 #[.agg #[.slice ga st.length gc, .slice aa st.length ac, .slice va st.length vc]] w fun e w' => e = .returned (.int .i64 ((st.countP rdy : Nat) : Int)) ∧ Below w.heap.size w w' := by
  have hb := below_box0 w (.cells #[.slice ga st.length gc, .slice aa st.length ac, .slice va st.length vc] 35)
  have HB := Lib.hid hb
  have HA := Lib.hid (hr.a.below hb)
  have HG := Lib.hid (hr.g.below hb)
  have HC := Lib.hid (cnt_st rdy st)
  obtain ⟨n, hnn⟩ : ∃ n, st.length = n := ⟨_, rfl⟩
  rw [hnn] at HA HB HC HG hn ⊢
  have HN := Lib.hid hnn
  rw [← HC.out]
  clear hb hr hnn
  go_enter Tryd.func74, Tryd.ntmps74
  go_wp2
  go_loop [3, 4] (fun m i => ∃ k : Nat, k ≤ n ∧ i = .int .i64 k ∧ m = .int .i64 ((cntF rdy st k : Nat) : Int)) (fun _ i => n - (intOf i).toNat)
  case atStart => exact ⟨0, Nat.zero_le _, rfl, rfl⟩
  case round =>
    obtain ⟨k, hk, rfl, rfl⟩ := hrel
    obtain ⟨c, hc⟩ : ∃ c, cntF rdy st k = c := ⟨_, rfl⟩
    have hcb : c ≤ k := by rw [← hc]; exact cnt_le _ 0 k
    have hstep : cntF rdy st (k + 1) = c + (if rdy (st.getD k (0, false, undef)) = true then 1 else 0) := by rw [← hc]; simp only [cntF, cnt, Nat.zero_le, true_and]
    have HS := Lib.hid hstep
    have HCC := Lib.hid hc
    rw [hc]
    clear hstep hc
    by_cases hlt : k < n
    · obtain ⟨ab, ao, haa, ca⟩ := HA.out.at_ hlt
      obtain ⟨gb, go, hga, cg⟩ := HG.out.at_ hlt
      have HAA := Lib.hid haa
      have HGA := Lib.hid hga
      obtain ⟨⟨g, al, v⟩, hS⟩ : ∃ S, st.getD k (0, false, undef) = S := ⟨_, rfl⟩
      dsimp only [zB, aF, zI, gF] at ca cg
      rw [hS] at ca cg
      dsimp only at ca cg
      have HAL := Lib.hid hS
      have n1 : decide ((k : Int) < (n : Int)) = true := by simp; omega
      have n2 : decide (k < n) = true := by simpa using hlt
      have n3 : (k : Int) < (n : Int) := by omega
      have n0 : (0 : Int) ≤ (k : Int) := by omega
      clear hS haa hga
      have e1 := HAA.out
      have e2 := HGA.out
      subst e1 e2
      cases al with
      | true =>
        go_wp2
        go_round
        case rel => exact ⟨k + 1, by omega, by go_num, by rw [HS.out, HAL.out]; simp [rdy]⟩
        case measure => simp [intOf]; omega
      | false =>
        by_cases hg : g < 65535
        · have q : decide ((g : Int) < 65535) = true := by simp; omega
          have HGG := Lib.hid hg
          clear hg
          go_wp2
          go_round
          case rel => exact ⟨k + 1, by omega, by go_num, by rw [HS.out, HAL.out, show rdy (g, false, v) = true by simp [rdy, HGG.out]]; simp⟩
          case measure => simp [intOf]; omega
        · have q : decide ((g : Int) < 65535) = false := by simp; omega
          have HGG := Lib.hid hg
          clear hg
          go_wp2
          go_round
          case rel => exact ⟨k + 1, by omega, by go_num, by rw [HS.out, HAL.out, show rdy (g, false, v) = false by simp [rdy, HGG.out]]; simp⟩
          case measure => simp [intOf]; omega
    · have n1 : decide ((k : Int) < (n : Int)) = false := by simp; omega
      have n2 : decide (k < n) = false := by simpa using hlt
      obtain rfl : k = n := by omega
      have R := Lib.hid HCC.out
      go_wp2
      go_ret
      exact ⟨by show Ending.returned (.int .i64 ((c : Nat) : Int)) = _; rw [R.out], HB.out⟩
end
end Go.Proofs.YtpaecmpiokkdnaaDoor

namespace Go.Proofs.YtpaecmpiokkdnaaDoor
open Go.RowKit Go.Sort Go.Joins

theorem own_setAt {w : World} {base : Nat} {e : TypeId} {n : Nat} {xs : List Value} {g cap i : Nat} (h : w.ownsRow base e 1 (.slice (some ⟨g, 0, none⟩) n cap) n xs) (_hi : i < n) (u : Value) :
    (w.setCell ⟨g, i, none⟩ u).ownsRow base e 1 (.slice (some ⟨g, 0, none⟩) n cap) n (xs.set i u) := by
  refine ⟨by rw [List.length_set]; exact h.1, ?_⟩
  rcases h.2 with ⟨h1, _⟩ | ⟨g', cap', cur, e1, e2, e3, e4, e5, e6, e7⟩
  · cases h1
  · simp only [Value.slice.injEq, Option.some.injEq, Addr.mk.injEq, and_true, true_and] at e1
    obtain ⟨rfl, rfl⟩ := e1
    refine .inr ⟨g, cap, cur.setIfInBounds i u, rfl, e2, setCell_block e3 u, e4, e5, by simpa using e6, ?_⟩
    rw [Array.toList_setIfInBounds, List.take_set, e7]
end Go.Proofs.YtpaecmpiokkdnaaDoor

namespace Go.Proofs.YtpaecmpiokkdnaaDoor
open Go.RowKit Go.Sort Go.Joins

section
variable {F : Fence} {m : Nat} {P : Program} {ops : Array Oper} {Q : Exit → Act → World → Prop} {l : Array Bool} {a : Act} {w : World}
theorem wpAnyIn_inv (INV : Array Bool → Act → World → Prop) (hacyc : inOrder ops = true) (hsz : ∀ l a w, INV l a w → l.size = ops.size)
    (H : ∀ l a w, INV l a w → wpAnyIn F m P .any ops Q (openOps ops l) l a w ∨ (0 < openOps ops l ∧ ∀ i ∈ Region.ready .any ops l, wpOpIn F m P ops Q i (fun a' w' => INV (l.setIfInBounds i true) a' w') a w)) :
    ∀ (n : Nat) (l : Array Bool) (a : Act) (w : World), openOps ops l = n → INV l a w → wpAnyIn F m P .any ops Q n l a w
  | 0, l, a, w, hn, h => by
    rcases H l a w h with h1 | ⟨h1, _⟩
    · rwa [hn] at h1
    · omega
  | n + 1, l, a, w, hn, h => by
    rcases H l a w h with h1 | ⟨h1, h2⟩
    · rwa [hn] at h1
    · obtain ⟨i, hi, ho⟩ := openOps_zero h1
      refine ⟨fun hr => absurd hr (ready_some hacyc (hsz l a w h) i i (Nat.le_refl _) hi ho), fun j hj => ?_⟩
      obtain ⟨o1, o2⟩ := ready_open hj
      exact wpOpIn_mono (fun a' w' h' => wpAnyIn_inv INV hacyc hsz H n _ a' w' (by have := openOps_set o2 o1; omega) h') (h2 j hj)
theorem wpAnyIn_fuel (n : Nat) (h : openOps ops l = n) (hw : wpAnyIn F m P .any ops Q n l a w) : wpAnyIn F m P .any ops Q (openOps ops l) l a w := h ▸ hw
theorem wpAnyIn_named {n : Nat} (h : ∀ a0, a0 = a → wpAnyIn F m P .any ops Q n l a0 w) : wpAnyIn F m P .any ops Q n l a w := h a rfl
theorem wpIn_append_lies {o : Oper} {K : Act → World → Prop} (w : World) (s x : Operand) (t : TypeId)
    (ho : o.op = .call { callee := .builtin .append, args := #[s, x], argTypes := #[t, t] })
    (base : Nat) (e : TypeId) (i : TypeInfo) (z : Value) (size bytes : Nat) (ht : P.underlying t = some (.slice e)) (hi : P.info? e = some i) (hz : i.zero = some z)
    (hsize : i.size = size) (hby : i.bytes = bytes) (hzs : z.cells.size = size) (hsz : 0 < size)
    (v : Value) (n : Nat) (xs : List Value) (hs : a.eval s = v) (hown : w.ownsRow base e size v n xs)
    (ad : Addr) (k c : Nat) (news : List Value) (hx : a.eval x = .slice (some ad) k c) (hl : news.length = k * size) (hnews : ∀ j u, news[j]? = some u → w.cell? (ad.add j) = some u) (h1 : ∀ u ∈ news, u.oneCell' = true)
    (hm : 0 < k) (h63 : n + k ≤ maxLen) (hbytes : (n + k) * bytes ≤ 140737488355328) (hbase : base ≤ w.heap.size) (H : Nat) (hH : w.heap.size = H)
    (h : ∀ g cap w', w'.ownsRow base e size (.slice (some ⟨g, 0, none⟩) (n + k) cap) (n + k) (xs ++ news) → w.grownBy w' v.ownBlock → (v.ownBlock = some g ∨ g = H) → g < w'.heap.size → K (a.put o.dst (.slice (some ⟨g, 0, none⟩) (n + k) cap)) w') : Oper.wpIn F m P o a w K Q := by
  obtain ⟨g, cap, w', hrun, r1, r2, r3, r4⟩ := run_append_lies (P := P) w t o.type base e i z size bytes ht hi hz hsize hby hzs hsz v n xs hown ad k c news hl hnews h1 hm h63 hbytes hbase H hH
  unfold Oper.wpIn
  refine ⟨?_, ?_⟩
  · simp [Oper.about, ho, resolve, Target.leads, Sem.run_pure]
  · rw [Oper.semAt_plain F _ _ (by rw [ho]; intro c hc'; cases hc')]
    simp [execOp, ho, resolve, invoke, builtin, hs, hx, hrun, Result.andThen]
    exact h g cap w' r1 r2 r3 r4
end
end Go.Proofs.YtpaecmpiokkdnaaDoor
