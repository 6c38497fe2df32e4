/- General lemmas: worlds behind calls that only make memory; slices that read as lists; one plain statement each. | General lemmas for seats without bits: worlds behind calls, results, rows of the call's own. | Words: Digits of the reference; which bytes are digits. | Words: whole and Int of the reference. | Words: Text, Right and end of the reference. | Words: Unquote of the reference. | Words: a text split at a byte; Lines of the program. | Words: a line's fields, one step; a slice that reads as fields. | Words: Split of the reference. -/
import Derived.Test.YthmknaoelmeniaaGreatDoorProg
import Derived.WalkKit
import Derived.WalkSpells
import Derived.WalkLawsBesides
import Derived.Deep.QuietTactic
import Derived.BigQuiet
import Derived.Lib.Hide
import Derived.Lib.QuietBelow
import Derived.Lib.SmallJoins
import Derived.Deep.AppendLies
import Derived.OneCell
import Derived.Test.YthmknaoelmeniaaGreatDoorWYZ1
import Derived.Laws.IdiomStrings
import Derived.Test.YthmknaoelmeniaaGreatDoorWYZ2
import Derived.WalkMore
import Derived.Test.YthmknaoelmeniaaGreatDoorShelf
namespace Go.Proofs.YthmknaoelmeniaaGreatDoor
open Go.RowKit Go.Sort

/-- A cell of a block that is not old: kept behind a name. -/
def farCell (d : Nat) (os : Array Obj) (W : World) (a : Addr) : Option Value := (grow (redrawn W d) os).cell? a
def farFrozen (d : Nat) (os : Array Obj) (W : World) (a : Addr) : Bool := (grow (redrawn W d) os).frozen? a
theorem below_grow (W : World) (d : Nat) (os : Array Obj) : Below W.heap.size W (grow (redrawn W d) os) := below_regrown W d os
theorem cell_grow (W : World) (d : Nat) (os : Array Obj) (b o : Nat) (s : Option Nat) :
    (grow (redrawn W d) os).cell? ⟨b, o, s⟩ = if b < W.heap.size then W.cell? ⟨b, o, s⟩ else farCell d os W ⟨b, o, s⟩ := by
  split
  · rename_i h; exact (below_regrown W d os).cell (p := ⟨b, o, s⟩) h
  · rfl
theorem frozen_grow (W : World) (d : Nat) (os : Array Obj) (b o : Nat) (s : Option Nat) :
    (grow (redrawn W d) os).frozen? ⟨b, o, s⟩ = if b < W.heap.size then W.frozen? ⟨b, o, s⟩ else farFrozen d os W ⟨b, o, s⟩ := by
  split
  · rename_i h; exact (below_regrown W d os).frozen (p := ⟨b, o, s⟩) h
  · rfl
theorem size_grow (W : World) (d : Nat) (os : Array Obj) : (grow (redrawn W d) os).heap.size = W.heap.size + os.size := by
  simp [grow, redrawn]
attribute [local go_sem] cell_grow frozen_grow size_grow

theorem Below.size_le {B : Nat} {w w' : World} (h : Below B w w') : w.heap.size ≤ w'.heap.size := h.size
theorem below_tr {a b c : World} (h : Below a.heap.size a b) (k : Below b.heap.size b c) : Below a.heap.size a c := h.trans (k.mono h.size)

/-- a post that speaks of worlds that only grew -/
theorem Calls.grown_of {P : Program} {f : FuncId} {args : Array Value} {w W : World} {v : Value} (hW : Below w.heap.size w W)
    (h : Calls P f args W fun e w' => e = .returned v ∧ Below W.heap.size W w') : Calls P f args W fun e w' => e = .returned v ∧ Below w.heap.size w w' :=
  h.mono fun _ _ ⟨he, hb⟩ => ⟨he, below_tr hW hb⟩

/-- A slice of words. -/
structure SlK (k : IntKind) (w : World) (a : Option Addr) (len : Nat) (ws : List Nat) : Prop where
  length : ws.length = len
  cells : len = 0 ∨ ∃ b off, a = some ⟨b, off, none⟩ ∧ ∀ j, j < len → w.cell? ⟨b, off + j, none⟩ = some (.int k (ws.getD j 0 : Nat))

theorem SlK.below {k : IntKind} {w w' : World} {a : Option Addr} {len : Nat} {ws : List Nat} (h : SlK k w a len ws) (hb : Below w.heap.size w w') : SlK k w' a len ws := by
  refine ⟨h.length, ?_⟩
  rcases h.cells with h0 | ⟨b, off, ha, hc⟩
  · exact .inl h0
  · refine .inr ⟨b, off, ha, fun j hj => ?_⟩
    have := hc j hj
    rw [hb.cell (p := ⟨b, off + j, none⟩) (World.block_lt_of_cell? _ _ this)]; exact this
theorem SlK.alloc {k : IntKind} {w : World} {a : Option Addr} {len : Nat} {ws : List Nat} (h : SlK k w a len ws) (o : Obj) : SlK k (w.alloc o) a len ws :=
  h.below ((Below.refl _ _).alloc (Nat.le_refl _) o)
theorem SlK.grow {k : IntKind} {w : World} {a : Option Addr} {len : Nat} {ws : List Nat} (h : SlK k w a len ws) (d : Nat) (os : Array Obj) : SlK k (grow (redrawn w d) os) a len ws :=
  h.below (below_regrown w d os)

end Go.Proofs.YthmknaoelmeniaaGreatDoor

namespace Go.Proofs.YthmknaoelmeniaaGreatDoor
open Go.RowKit Go.Sort Go.Joins
attribute [local go_sem] cell_grow frozen_grow size_grow

theorem below_box0 (w : World) (o : Obj) : Below w.heap.size w (w.alloc o) := (Below.refl _ _).alloc (Nat.le_refl _) o
theorem below_draw (w : World) (k : Nat) : Below w.heap.size w (w.drewN k) := ⟨rfl, rfl, rfl, Nat.le_refl _, fun _ _ => rfl⟩
theorem ret_i64 {a b : Int} (h : a = b) : Ending.returned (.int .i64 a) = .returned (.int .i64 b) := by rw [h]
theorem ret_bool {a b : Bool} (h : a = b) : Ending.returned (.bool a) = .returned (.bool b) := by rw [h]
theorem ret_two {a b c d : Int} {k l : IntKind} (h : a = b) (h2 : c = d) : Ending.returned (.tuple #[.int k a, .int l c]) = .returned (.tuple #[.int k b, .int l d]) := by rw [h, h2]
theorem ret_boolE {a b : Bool} {c d : Int} (h : a = b) (h2 : c = d) : Ending.returned (.tuple #[.bool a, .int .i64 c]) = .returned (.tuple #[.bool b, .int .i64 d]) := by rw [h, h2]
theorem bne0_true {x : Int} (h : x ≠ 0) : (x != 0) = true := by simpa using h
theorem keepN {W nxt : World} {C : World → Prop} (hC : Hid (∀ w', Below W.heap.size W w' → C w')) (h : Below W.heap.size W nxt) : Below W.heap.size W nxt ∧ C nxt := ⟨h, hC.out _ h⟩
theorem bel_alloc {W cur : World} {C : Prop} (h : Below W.heap.size W cur ∧ C) (o : Obj) : Below W.heap.size W (cur.alloc o) := h.1.alloc h.1.size o
theorem bel_call {W cur nxt : World} {C : Prop} (h : Below W.heap.size W cur ∧ C) (hb : Below cur.heap.size cur nxt) : Below W.heap.size W nxt := below_tr h.1 hb
theorem own_slice {w : World} {base len size : Nat} {e : TypeId} {v : Value} {xs : List Value} (h : w.ownsRow base e size v len xs) : ∃ a cap, v = .slice a len cap := by
  rcases ownsRow_forms h with ⟨rfl, rfl⟩ | ⟨g, cap, rfl⟩
  · exact ⟨_, _, rfl⟩
  · exact ⟨_, _, rfl⟩
theorem blk_lt {w : World} {k : Nat} {o : Obj} (h : w.heap[k]? = some o) : k < w.heap.size := by
  rcases Nat.lt_or_ge k w.heap.size with h' | h'
  · exact h'
  · rw [Array.getElem?_eq_none h'] at h; cases h
theorem own_below {w w' : World} {base : Nat} {e : TypeId} {size : Nat} {v : Value} {n : Nat} {xs : List Value} (h : w.ownsRow base e size v n xs) (hb : Below w.heap.size w w') : w'.ownsRow base e size v n xs := by
  obtain ⟨h1, h2⟩ := h
  refine ⟨h1, ?_⟩
  rcases h2 with h2 | ⟨g, cap, cur, hv, hg, hh, r⟩
  · exact Or.inl h2
  · exact Or.inr ⟨g, cap, cur, hv, hg, by rw [hb.block _ (blk_lt hh)]; exact hh, r⟩
theorem own_ne {w : World} {base size : Nat} {e t : TypeId} {v : Value} {n : Nat} {xs : List Value} {k : Nat} {cs : Array Value} {fz : Nat × Nat} (h : w.ownsRow base e size v n xs) (hk : w.heap[k]? = some (.cells cs t fz)) (hne : e ≠ t) : v.ownBlock ≠ some k := by
  rcases h.2 with ⟨h2, _⟩ | ⟨g, cap, cur, hv, hg, hh, _⟩
  · rw [h2]; intro e; cases e
  · rw [hv]
    intro e'
    have : g = k := by simpa [Value.ownBlock] using e'
    subst this
    rw [hh] at hk
    simp only [Option.some.injEq, Obj.cells.injEq] at hk
    exact hne hk.2.1
theorem setCell_block {w : World} {g i : Nat} {cs : Array Value} {t : TypeId} (h : w.heap[g]? = some (.cells cs t (0, 0))) (v : Value) : (w.setCell ⟨g, i, none⟩ v).heap[g]? = some (.cells (cs.setIfInBounds i v) t (0, 0)) := by
  have := block_setCell h (i := i) v; exact this
end Go.Proofs.YthmknaoelmeniaaGreatDoor

namespace Go.Proofs.YthmknaoelmeniaaGreatDoor
open Go.RowKit Go.Sort Go.Joins
attribute [local go_sem] cell_grow frozen_grow size_grow

/-- a byte of a list -/
def bt (l : List UInt8) (k : Nat) : UInt8 := l.getD k 0
theorem bt_at {l : List UInt8} {k : Nat} (h : k < l.length) : l[k]? = some (bt l k) := by
  unfold bt; rw [List.getD_eq_getElem?_getD, List.getElem?_eq_getElem h]; rfl
theorem len_of {s : ByteArray} {L : List UInt8} (h : s.data.toList = L) : L.length = s.size := by rw [← h, Array.length_toList]; rfl
theorem bt_get {s : ByteArray} {L : List UInt8} (hL : s.data.toList = L) {i : Nat} (h : i < s.size) : s[i].toNat = (bt L i).toNat := by
  subst hL
  unfold bt
  have h' : i < s.data.toList.length := by simpa using h
  rw [List.getD_eq_getElem?_getD, List.getElem?_eq_getElem h']
  rfl
theorem ba_of {a b : ByteArray} (h : a.data.toList = b.data.toList) : a = b := ByteArray.ext (Array.ext' h)
theorem ret_str {a b : ByteArray} (h : a.data.toList = b.data.toList) : Ending.returned (.string a) = .returned (.string b) := by rw [ba_of h]
theorem empty_nil {L : List UInt8} {s : ByteArray} (hL : s.data.toList = L) : (s.toList == []) = decide (L = []) := by
  rw [Lib.toList_data, hL, Bool.eq_iff_iff]; simp
theorem byte_lt (c : UInt8) : (c.toNat : Int) < 256 := by have := c.toNat_lt; omega
theorem wdig_ok (c : UInt8) (w : World) : Calls Tryz.prog 70 #[.int .u8 (c.toNat : Int)] w fun e w' => e = .returned (.bool (dgC c)) ∧ w = w' := by
  obtain ⟨r, hr⟩ : ∃ r, dgC c = r := ⟨_, rfl⟩
  rw [hr]
  unfold dgC at hr
  have H := Lib.hid hr
  clear hr
  go_enter Tryz.func70, Tryz.ntmps70
  go_wp2
  all_goals go_ret
  all_goals exact ⟨ret_bool (by rw [← H.out]; rw [Bool.eq_iff_iff]; simp; omega), rfl⟩
theorem wrdig_ok (c : UInt8) (w : World) : Calls Tryz.prog 40 #[.int .u8 (c.toNat : Int)] w fun e w' => e = .returned (.bool (dgC c)) ∧ w = w' := by
  obtain ⟨r, hr⟩ : ∃ r, dgC c = r := ⟨_, rfl⟩
  rw [hr]
  unfold dgC at hr
  have H := Lib.hid hr
  clear hr
  go_enter Tryz.func40, Tryz.ntmps40
  go_wp2
  all_goals go_ret
  all_goals exact ⟨ret_bool (by rw [← H.out]; rw [Bool.eq_iff_iff]; simp; omega), rfl⟩

theorem itoa_m1 {n : Int} (h0 : n < 0) : Lib.itoa n = 45 :: Lib.itoa (-n) := by
  obtain ⟨u, hu, rfl⟩ : ∃ u : Nat, 1 ≤ u ∧ n = -(u : Int) := ⟨n.natAbs, by omega, by omega⟩
  rw [Lib.itoa_neg u hu, Int.neg_neg, Lib.itoa_nonneg]
theorem dec_two {u : Nat} (h : 10 ≤ u) : Lib.decDigits u = Lib.decDigits (u / 10) ++ Lib.decDigits (u % 10) := by
  conv => lhs; rw [Lib.decDigits, dif_neg (by omega)]
  rw [Lib.decDigits_one (show u % 10 < 10 by omega)]
theorem itoa_p2 {n : Int} (h : 10 ≤ n) : Lib.itoa n = Lib.itoa (n.tdiv 10) ++ Lib.itoa (n.tmod 10) := by
  obtain ⟨u, rfl⟩ : ∃ u : Nat, n = (u : Int) := ⟨n.toNat, by omega⟩
  rw [show ((u : Int)).tdiv 10 = ((u / 10 : Nat) : Int) from rfl, show ((u : Int)).tmod 10 = ((u % 10 : Nat) : Int) from rfl, Lib.itoa_nonneg, Lib.itoa_nonneg, Lib.itoa_nonneg]
  exact dec_two (by omega)
theorem itoa_m2 {n : Int} (h : n ≤ -10) : Lib.itoa n = Lib.itoa (n.tdiv 10) ++ Lib.itoa (-(n.tmod 10)) := by
  obtain ⟨u, hu, rfl⟩ : ∃ u : Nat, 10 ≤ u ∧ n = -(u : Int) := ⟨n.natAbs, by omega, by omega⟩
  rw [Int.neg_tdiv, Int.neg_tmod, Int.neg_neg, show ((u : Int)).tdiv 10 = ((u / 10 : Nat) : Int) from rfl, show ((u : Int)).tmod 10 = ((u % 10 : Nat) : Int) from rfl, Lib.itoa_neg u (by omega), Lib.itoa_neg (u / 10) (by omega), Lib.itoa_nonneg, dec_two hu]
  rfl
theorem itoa_p1 {n : Int} (h0 : 0 ≤ n) (h1 : n < 10) : Lib.itoa n = [UInt8.ofNat (48 + n.toNat)] := by
  obtain ⟨u, rfl⟩ : ∃ u : Nat, n = (u : Int) := ⟨n.toNat, by omega⟩
  rw [Lib.itoa_nonneg, Lib.decDigits_one (by omega)]; rfl
theorem tdiv_neg {n : Int} (h : n ≤ -10) : n.tdiv 10 < 0 ∧ (n.tdiv 10).natAbs < n.natAbs ∧ -9 ≤ n.tmod 10 ∧ n.tmod 10 ≤ 0 := by
  obtain ⟨u, hu, rfl⟩ : ∃ u : Nat, 10 ≤ u ∧ n = -(u : Int) := ⟨n.natAbs, by omega, by omega⟩
  rw [Int.neg_tdiv, Int.neg_tmod, show ((u : Int)).tdiv 10 = ((u / 10 : Nat) : Int) from rfl, show ((u : Int)).tmod 10 = ((u % 10 : Nat) : Int) from rfl]
  omega
theorem tdiv_pos {n : Int} (h : 10 ≤ n) : 0 ≤ n.tdiv 10 ∧ n.tdiv 10 < n ∧ 0 ≤ n.tmod 10 ∧ n.tmod 10 ≤ 9 := by
  obtain ⟨u, rfl⟩ : ∃ u : Nat, n = (u : Int) := ⟨n.toNat, by omega⟩
  rw [show ((u : Int)).tdiv 10 = ((u / 10 : Nat) : Int) from rfl, show ((u : Int)).tmod 10 = ((u % 10 : Nat) : Int) from rfl]
  omega
theorem nDig_le : ∀ (k u : Nat), u < 10 ^ (k + 1) → Lib.nDigits u ≤ k + 1
  | 0, u, h => by rw [Lib.nDigits_small (by simpa using h)]; exact Nat.le_refl _
  | k + 1, u, h => by
    by_cases hu : u < 10
    · rw [Lib.nDigits_small hu]; omega
    · rw [Lib.nDigits_big hu]
      have := nDig_le k (u / 10) (by rw [Nat.div_lt_iff_lt_mul (by decide)]; rw [Nat.pow_succ] at h; exact h)
      omega
theorem itoa_20 {n : Int} (h0 : -9223372036854775808 ≤ n) (h1 : n ≤ 9223372036854775807) : (Lib.itoa n).length ≤ 20 := by
  rcases (show n < 0 ∨ 0 ≤ n by omega) with h | h
  · obtain ⟨u, hu, rfl⟩ : ∃ u : Nat, 1 ≤ u ∧ n = -(u : Int) := ⟨n.natAbs, by omega, by omega⟩
    rw [Lib.itoa_neg u hu, List.length_cons, Lib.decDigits_length]
    have := nDig_le 18 u (by have : (10 : Nat) ^ (18 + 1) = 10000000000000000000 := by decide
                             omega)
    omega
  · obtain ⟨u, rfl⟩ : ∃ u : Nat, n = (u : Int) := ⟨n.toNat, by omega⟩
    rw [Lib.itoa_nonneg, Lib.decDigits_length]
    have := nDig_le 18 u (by have : (10 : Nat) ^ (18 + 1) = 10000000000000000000 := by decide
                             omega)
    omega
set_option maxRecDepth 100000 in
set_option maxHeartbeats 400000 in
theorem rdig_ok (n : Int) (w : World) (h0 : -9223372036854775808 ≤ n) (h1 : n ≤ 9223372036854775807) : Calls Tryz.prog 24 #[.int .i64 n] w fun e w' => e = .returned (.string ⟨(Lib.itoa n).toArray⟩) ∧ Below w.heap.size w w' := by
  induction hN : (2 * n.natAbs + (if n < 0 then 1 else 0)) using Nat.strongRecOn generalizing n w with
  | ind N ih =>
    have IH : ∀ (m : Int), 2 * m.natAbs + (if m < 0 then 1 else 0) < N → -9223372036854775808 ≤ m → m ≤ 9223372036854775807 → ∀ W : World, Calls Tryz.prog 24 #[.int .i64 m] W fun e w' => e = .returned (.string ⟨(Lib.itoa m).toArray⟩) ∧ Below W.heap.size W w' := fun m h a b W => ih _ h m W a b rfl
    clear ih
    by_cases c1 : n < 0
    · rw [if_pos c1] at hN
      have d1 : decide (n < 0) = true := decide_eq_true c1
      by_cases c2 : -10 < n
      · have d2 : decide (-10 < n) = true := decide_eq_true c2
        have HI := Lib.hid (IH (-n) (by rw [if_neg (by omega)]; omega) (by omega) (by omega))
        have HE := Lib.hid (itoa_m1 c1)
        have hl := itoa_20 (n := -n) (by omega) (by omega)
        have hw : IntKind.i64.wrap (-n) = -n := IntWalk.i64_in _ (by omega)
        clear IH hN
        go_enter Tryz.func24, Tryz.ntmps24
        go_wp2_with (go_at_call 24; refine (HI.out _).mono ?_; rintro e w1 ⟨rfl, b1⟩)
        go_ret
        exact ⟨ret_str (by rw [HE.out]; simp), b1⟩
      · have d2 : decide (-10 < n) = false := decide_eq_false c2
        obtain ⟨g1, g2, g3, g4⟩ := tdiv_neg (n := n) (by omega)
        have HI := Lib.hid (IH (n.tdiv 10) (by rw [if_pos g1]; omega) (by omega) (by omega))
        have HJ := Lib.hid (IH (-(n.tmod 10)) (by rw [if_neg (by omega)]; omega) (by omega) (by omega))
        have HE := Lib.hid (itoa_m2 (n := n) (by omega))
        have hl1 := itoa_20 (n := n.tdiv 10) (by omega) (by omega)
        have hl2 := itoa_20 (n := -(n.tmod 10)) (by omega) (by omega)
        obtain ⟨q, hq⟩ : ∃ q, n.tdiv 10 = q := ⟨_, rfl⟩
        obtain ⟨r, hr⟩ : ∃ r, n.tmod 10 = r := ⟨_, rfl⟩
        rw [hq] at g1 g2 HI HE hl1
        rw [hr] at g3 g4 HJ HE hl2
        have hw1 : IntKind.i64.wrap (n.tdiv 10) = q := by rw [hq]; exact IntWalk.i64_in _ (by omega)
        have hw2 : IntKind.i64.wrap (n.tmod 10) = r := by rw [hr]; exact IntWalk.i64_in _ (by omega)
        have hw : IntKind.i64.wrap (-r) = -r := IntWalk.i64_in _ (by omega)
        clear IH hN
        go_enter Tryz.func24, Tryz.ntmps24
        go_wp2_with fail
        refine (HI.out _).mono ?_
        rintro e w1 ⟨rfl, b1⟩
        go_wp2_with fail
        refine (HJ.out _).mono ?_
        rintro e w2 ⟨rfl, b2⟩
        go_wp2_with fail
        go_ret
        exact ⟨ret_str (by rw [HE.out]; simp), below_tr b1 b2⟩
    · rw [if_neg c1] at hN
      have d1 : decide (n < 0) = false := decide_eq_false c1
      by_cases c2 : n < 10
      · have d2 : decide (n < 10) = true := decide_eq_true c2
        have HE := Lib.hid (itoa_p1 (n := n) (by omega) c2)
        have hw1 : IntKind.i64.wrap (48 + n) = 48 + n := IntWalk.i64_in _ (by omega)
        have hw2 : IntKind.u8.wrap (48 + n) = 48 + n := IntWalk.u8_in _ (by omega)
        clear IH hN
        go_enter Tryz.func24, Tryz.ntmps24
        go_wp2
        have hcv : (convert 47 9 (.slice (some ⟨w.heap.size, 0, none⟩) 1 1)).run Tryz.prog (w.alloc (.cells #[.int .u8 (48 + n)] 5)) = .ok (.string ⟨[UInt8.ofNat (48 + n.toNat)].toArray⟩) (w.alloc (.cells #[.int .u8 (48 + n)] 5)) := by
          refine run_convert_bytes_back _ _ _ 5 ⟨w.heap.size, 0, none⟩ 1 [UInt8.ofNat (48 + n.toNat)] Tryz.underlying47 Tryz.underlying5 Tryz.underlying9 ?_
          intro j hj
          have : j = 0 := by simpa using hj
          subst this
          have e1 : ((UInt8.ofNat (48 + n.toNat)).toNat : Int) = 48 + n := by rw [toNat_dg (by omega)]; omega
          rw [show ([UInt8.ofNat (48 + n.toNat)])[0] = UInt8.ofNat (48 + n.toNat) from rfl, e1]
          show (w.alloc (.cells #[.int .u8 (48 + n)] 5)).cell? ⟨w.heap.size, 0, none⟩ = _
          rw [cell_of_block (heap_alloc_new w _)]
          rfl
        rw [hcv]
        simp only [Result.andThen]
        rw [Oper.upon_value]
        go_wp2
        go_ret
        exact ⟨ret_str (by rw [HE.out]; simp), below_box0 w _⟩
      · have d2 : decide (n < 10) = false := decide_eq_false c2
        obtain ⟨g1, g2, g3, g4⟩ := tdiv_pos (n := n) (by omega)
        have HI := Lib.hid (IH (n.tdiv 10) (by rw [if_neg (by omega)]; omega) (by omega) (by omega))
        have HJ := Lib.hid (IH (n.tmod 10) (by rw [if_neg (by omega)]; omega) (by omega) (by omega))
        have HE := Lib.hid (itoa_p2 (n := n) (by omega))
        have hl1 := itoa_20 (n := n.tdiv 10) (by omega) (by omega)
        have hl2 := itoa_20 (n := n.tmod 10) (by omega) (by omega)
        obtain ⟨q, hq⟩ : ∃ q, n.tdiv 10 = q := ⟨_, rfl⟩
        obtain ⟨r, hr⟩ : ∃ r, n.tmod 10 = r := ⟨_, rfl⟩
        rw [hq] at g1 g2 HI HE hl1
        rw [hr] at g3 g4 HJ HE hl2
        have hw1 : IntKind.i64.wrap (n.tdiv 10) = q := by rw [hq]; exact IntWalk.i64_in _ (by omega)
        have hw2 : IntKind.i64.wrap (n.tmod 10) = r := by rw [hr]; exact IntWalk.i64_in _ (by omega)
        clear IH hN
        go_enter Tryz.func24, Tryz.ntmps24
        go_wp2_with fail
        refine (HI.out _).mono ?_
        rintro e w1 ⟨rfl, b1⟩
        go_wp2_with fail
        refine (HJ.out _).mono ?_
        rintro e w2 ⟨rfl, b2⟩
        go_wp2_with fail
        go_ret
        exact ⟨ret_str (by rw [HE.out]; simp), below_tr b1 b2⟩
end Go.Proofs.YthmknaoelmeniaaGreatDoor

namespace Go.Proofs.YthmknaoelmeniaaGreatDoor
open Go.RowKit Go.Sort Go.Joins
attribute [local go_sem] cell_grow frozen_grow size_grow

/-- where the digits begin -/
def frm (l : List UInt8) : Nat := if ngB l then 1 else 0
theorem absL_drop (l : List UInt8) : absL l = l.drop (frm l) := by
  unfold absL frm
  cases ngB l
  · rfl
  · cases l <;> rfl
theorem frm_le {l : List UInt8} (h : l ≠ []) : frm l ≤ l.length := by
  have := List.length_pos_iff.2 h
  unfold frm; split <;> omega
theorem all_drop {l : List UInt8} {f : Nat} : (l.drop f).all dgC = true ↔ ∀ j, f ≤ j → j < l.length → dgC (bt l j) = true := by
  rw [List.all_eq_true]
  constructor
  · intro h j h1 h2
    refine h _ ?_
    rw [List.mem_iff_getElem?]
    exact ⟨j - f, by rw [List.getElem?_drop, show f + (j - f) = j by omega]; exact bt_at h2⟩
  · intro h x hx
    obtain ⟨i, hi⟩ := List.mem_iff_getElem?.1 hx
    rw [List.getElem?_drop] at hi
    have hlt : f + i < l.length := by
      rcases Nat.lt_or_ge (f + i) l.length with h' | h'
      · exact h'
      · rw [List.getElem?_eq_none h'] at hi; cases hi
    rw [bt_at hlt] at hi
    cases hi
    exact h _ (by omega) hlt
theorem whole_no {l : List UInt8} {j : Nat} (h1 : frm l ≤ j) (h2 : j < l.length) (h : dgC (bt l j) = false) : wholeB l = false := by
  cases hw : wholeB l
  · rfl
  · unfold wholeB at hw
    simp only [Bool.and_eq_true] at hw
    have := natB_dig hw.1
    rw [absL_drop] at this
    have := all_drop.1 this j h1 h2
    rw [h] at this; cases this
theorem whole_short {l : List UInt8} (h : l.length ≤ frm l) : wholeB l = false := by
  unfold wholeB
  rw [absL_drop, List.drop_eq_nil_of_le h]
  rfl
theorem drop_head {l : List UInt8} {f : Nat} (h : f < l.length) : (l.drop f).head? = some (bt l f) := by
  rw [List.head?_drop, bt_at h]
theorem whole_zero {l : List UInt8} (h1 : frm l + 1 < l.length) (h : bt l (frm l) = 48) : wholeB l = false := by
  cases hw : wholeB l
  · rfl
  · unfold wholeB at hw
    simp only [Bool.and_eq_true] at hw
    have h2 := natB_head hw.1 (by rw [absL_drop, List.length_drop]; omega)
    rw [absL_drop, drop_head (by omega), h] at h2
    exact absurd rfl h2
/-- the rest: all digits, not too short, no 0 in front -/
theorem whole_rest {l : List UInt8} (h0 : frm l < l.length) (h1 : ∀ j, frm l ≤ j → j < l.length → dgC (bt l j) = true) (h2 : l.length = frm l + 1 ∨ bt l (frm l) ≠ 48) : wholeB l = decide (l ≠ [45, 48]) := by
  have hn : natB (absL l) = true := by
    rw [absL_drop]
    refine natB_of (all_drop.2 h1) ?_ ?_
    · intro e
      have := congrArg List.length e
      rw [List.length_drop, List.length_nil] at this
      omega
    · rcases h2 with h2 | h2
      · left; rw [List.length_drop]; omega
      · right; rw [drop_head h0]; intro e; exact h2 (Option.some.inj e)
  unfold wholeB
  rw [hn, Bool.true_and, Bool.eq_iff_iff]
  simp only [Bool.not_eq_true', Bool.and_eq_false_iff, decide_eq_false_iff_not, decide_eq_true_eq]
  constructor
  · rintro h rfl
    rcases h with h | h
    · cases h
    · exact h rfl
  · intro h
    cases hg : ngB l
    · exact .inl rfl
    · right
      intro e
      cases l with
      | nil => cases hg
      | cons c r =>
        rw [ngB_cons] at hg
        have hc : c = 45 := UInt8.toNat_inj.1 (by simpa using hg)
        subst hc
        have : absL (45 :: r) = r := rfl
        rw [this] at e
        exact h (by rw [e])
theorem frm_of {l : List UInt8} (h : 0 < l.length) : frm l = if (bt l 0).toNat = 45 then 1 else 0 := by
  cases l with
  | nil => simp at h
  | cons c r =>
    unfold frm
    rw [ngB_cons]
    show _ = if c.toNat = 45 then 1 else 0
    by_cases e : c.toNat = 45
    · rw [decide_eq_true e, if_pos rfl, if_pos e]
    · rw [decide_eq_false e, if_neg (by simp), if_neg e]
theorem c48 {c : UInt8} : ((c.toNat : Int) == 48) = decide (c = 48) := by
  rw [Bool.eq_iff_iff]
  simp only [beq_iff_eq, decide_eq_true_eq]
  constructor
  · intro h; exact UInt8.toNat_inj.1 (by show c.toNat = 48; omega)
  · rintro rfl; rfl
theorem str_ne (a : ByteArray) (l : List UInt8) {L : List UInt8} (h : a.data.toList = L) : (a.toList == l) = decide (L = l) := by
  rw [Lib.toList_data, h, Bool.eq_iff_iff]; simp
set_option maxRecDepth 100000 in
set_option maxHeartbeats 1000000 in
theorem rwhole_ok (s : ByteArray) (L : List UInt8) (hL : s.data.toList = L) (hs : s.size ≤ 9223372036854775806) (w : World) : Calls Tryz.prog 39 #[.string s] w fun e w' => e = .returned (.bool (wholeB L)) ∧ w = w' := by
  have hlen := len_of hL
  by_cases h0 : 0 < s.size
  · have d0 : decide ((0 : Int) < (s.size : Int)) = true := decide_eq_true (by omega)
    have hb0 := bt_get hL h0
    have hf := frm_of (l := L) (by omega)
    have hlt0 := (bt L 0).toNat_lt
    obtain ⟨f, hF⟩ : ∃ f, frm L = f := ⟨_, rfl⟩
    rw [hF] at hf
    have HF := Lib.hid hF
    obtain ⟨c0, hc0⟩ : ∃ c, (bt L 0).toNat = c := ⟨_, rfl⟩
    rw [hc0] at hb0 hf hlt0
    clear hc0 hF
    have hfw : ((c0 : Int) == 45) = true ∧ f = 1 ∨ ((c0 : Int) == 45) = false ∧ f = 0 := by
      by_cases e : c0 = 45
      · left; rw [if_pos e] at hf; exact ⟨by rw [e]; rfl, hf⟩
      · right; rw [if_neg e] at hf; exact ⟨by simp; omega, hf⟩
    clear hf
    have HL := Lib.hid hL
    clear hL
    rcases hfw with ⟨e0, rfl⟩ | ⟨e0, rfl⟩
    all_goals
      go_enter Tryz.func39, Tryz.ntmps39
      go_wp2
      clear hb0 e0 hlt0 d0
      go_loop [4] (fun i => ∃ k : Nat, i = .int .i64 k ∧ frm L ≤ k ∧ k ≤ s.size ∧ Hid (∀ j, frm L ≤ j → j < k → dgC (bt L j) = true)) (fun i => s.size - (intOf i).toNat)
      case atStart => exact ⟨frm L, by rw [HF.out]; go_num, Nat.le_refl _, by rw [HF.out]; omega, Lib.hid (fun j hj => by omega)⟩
      case round =>
        obtain ⟨k, rfl, hk0, hk, HA⟩ := hrel
        by_cases hlt : k < s.size
        · have hb := bt_get HL.out hlt
          have HD := Lib.hid (wrdig_ok (bt L k))
          have hb2 := (bt L k).toNat_lt
          obtain ⟨c, hc⟩ : ∃ c, bt L k = c := ⟨_, rfl⟩
          rw [hc] at hb hb2 HD
          have HC := Lib.hid hc
          obtain ⟨r, hr⟩ : ∃ r, dgC c = r := ⟨_, rfl⟩
          rw [hr] at HD
          have HR := Lib.hid hr
          clear hr hc
          cases r
          · go_wp2_with (go_at_call 40; refine (HD.out _).mono ?_; rintro e w1 ⟨rfl, rfl⟩)
            go_ret
            exact ⟨ret_bool (whole_no hk0 (by omega) (by rw [HC.out, HR.out])).symm, rfl⟩
          · go_wp2_with (go_at_call 40; refine (HD.out _).mono ?_; rintro e w1 ⟨rfl, rfl⟩)
            go_round
            case rel => exact ⟨k + 1, by go_num, by omega, by omega, Lib.hid (fun j hj1 hj2 => by
              by_cases ej : j = k
              · rw [ej, HC.out, HR.out]
              · exact HA.out j hj1 (by omega))⟩
            case measure => simp [intOf]; omega
        · obtain rfl : k = s.size := by omega
          by_cases hsz : frm L < s.size
          · have hb := bt_get HL.out hsz
            have hb2 := (bt L (frm L)).toNat_lt
            have hz := c48 (c := bt L (frm L))
            have HZ := Lib.hid (whole_zero (l := L))
            have HW := Lib.hid (whole_rest (l := L) (by omega) (fun j h1 h2 => HA.out j h1 (by omega)))
            have hst := str_ne s [45, 48] HL.out
            obtain ⟨g, hg⟩ : ∃ g, frm L = g := ⟨_, rfl⟩
            have hg2 := HF.out
            rw [hg] at hg2
            subst hg2
            have hsz2 := hsz
            rw [hg] at hsz2
            have hb3 := bt_get HL.out hsz2
            obtain ⟨c, hc⟩ : ∃ c, bt L (frm L) = c := ⟨_, rfl⟩
            rw [hg] at hb2 hz HZ HW hk0 hsz hc
            rw [hc] at hb3 hb2 hz HZ HW
            clear HF HA hg hb hc
            go_wp2
            all_goals go_ret
            all_goals refine ⟨ret_bool ?_, rfl⟩
            all_goals first
              | exact (HZ.out (by simp_all <;> omega) (by assumption)).symm
              | (rw [HW.out (by first | (right; assumption) | (left; simp_all <;> omega))]; clear HW HZ; simp_all; done)
          · have HZ := Lib.hid (whole_short (l := L) (by omega))
            have h1 : s.size = frm L := by omega
            rw [HF.out] at h1
            first
              | (exfalso; omega)
              | (have d1 : ((s.size : Int) == 1) = true := by rw [h1]; rfl
                 clear HF HA hlen
                 go_wp2
                 all_goals go_ret
                 all_goals exact ⟨ret_bool HZ.out.symm, rfl⟩)
  · have h1 : s.size = 0 := by omega
    have HZ := Lib.hid (whole_short (l := L) (by omega))
    have d0 : decide ((0 : Int) < (s.size : Int)) = false := decide_eq_false (by omega)
    have d1 : ((s.size : Int) == 0) = true := by rw [h1]; rfl
    clear hL
    go_enter Tryz.func39, Tryz.ntmps39
    go_wp2
    go_loop [4] (fun i => i = .int .i64 0) (fun i => 0)
    case atStart => rfl
    case round =>
      subst hrel
      have d2 : decide ((0 : Int) < (s.size : Int)) = false := decide_eq_false (by omega)
      go_wp2
      all_goals go_ret
      all_goals exact ⟨ret_bool HZ.out.symm, rfl⟩
/-- the wrapped sum while the digits are read -/
theorem wrap_step (n : Int) (v d : Int) (h : n = IntKind.i64.wrap v) : IntKind.i64.wrap (IntKind.i64.wrap (10 * n) + d) = IntKind.i64.wrap (10 * v + d) := by
  subst h
  rw [IntWalk.i64_left, IntWalk.i64_left, IntWalk.i64_left, IntWalk.i64_left]
  unfold RowKit.wrap64
  omega
theorem wrap64_bd (n : Int) : -9223372036854775808 ≤ IntKind.i64.wrap n ∧ IntKind.i64.wrap n ≤ 9223372036854775807 := by
  rw [IntWalk.i64_left]
  unfold RowKit.wrap64
  omega
theorem take_succ' {l : List UInt8} {k : Nat} (h : k < l.length) : l.take (k + 1) = l.take k ++ [bt l k] := by
  rw [List.take_add_one, bt_at h]; rfl
theorem ngB_take {l : List UInt8} {k : Nat} : ngB (l.take (k + 1)) = ngB l := by
  cases l with
  | nil => rfl
  | cons c r => rw [List.take_succ_cons, ngB_cons, ngB_cons]
theorem valZ_pos {l : List UInt8} (h : ngB l = false) : valZ l = valN 0 l := by
  unfold valZ absL; rw [h]; rfl
/-- the number of the first bytes, one byte further -/
theorem valZ_step {l : List UInt8} {k : Nat} (h : k < l.length) (hd : dgC (bt l k) = true) : valZ (l.take (k + 1)) = 10 * valZ (l.take k) + (if ngB l = true then -(((bt l k).toNat : Int) - 48) else ((bt l k).toNat : Int) - 48) := by
  have hc := dgC_yes.1 hd
  cases hg : ngB l
  · rw [if_neg (by simp)]
    have h1 : ngB (l.take (k + 1)) = false := by rw [ngB_take, hg]
    have h2 : ngB (l.take k) = false := by
      cases k with
      | zero => rfl
      | succ k => rw [ngB_take, hg]
    rw [valZ_pos h1, valZ_pos h2, take_succ' h, valN_snoc]
    omega
  · rw [if_pos rfl]
    cases l with
    | nil => cases hg
    | cons c r =>
      have hc45 : c = 45 := by
        rw [ngB_cons] at hg
        exact UInt8.toNat_inj.1 (by simpa using hg)
      subst hc45
      cases k with
      | zero =>
        have e45 : bt (45 :: r) 0 = 45 := rfl
        rw [e45] at hd
        cases hd
      | succ j =>
        have hb : bt (45 :: r) (j + 1) = bt r j := rfl
        rw [hb] at hc ⊢
        rw [List.take_succ_cons, List.take_succ_cons]
        show -(valN 0 (r.take (j + 1)) : Int) = 10 * -(valN 0 (r.take j) : Int) + _
        rw [take_succ' (by simpa using h), valN_snoc]
        omega
theorem valZ_skip {l : List UInt8} {k : Nat} (h : k < l.length) (hw : wholeB l = true) (hd : dgC (bt l k) = false) : valZ (l.take (k + 1)) = valZ (l.take k) := by
  rcases Nat.lt_or_ge k (frm l) with h1 | h1
  · have hg : ngB l = true := by
      cases hg : ngB l
      · unfold frm at h1; rw [hg] at h1; simp at h1
      · rfl
    have h0 : k = 0 := by unfold frm at h1; rw [hg] at h1; simpa using h1
    subst h0
    cases l with
    | nil => cases hg
    | cons c r =>
      have hc45 : c = 45 := by
        rw [ngB_cons] at hg
        exact UInt8.toNat_inj.1 (by simpa using hg)
      subst hc45
      rfl
  · rw [whole_no h1 h hd] at hw; cases hw
theorem wrap64_in' {n v : Int} (h : n = RowKit.wrap64 v) (h0 : -9223372036854775808 ≤ v) (h1 : v ≤ 9223372036854775807) : n = v := by
  subst h; unfold RowKit.wrap64; omega
theorem wrap64_rng {n v : Int} (h : n = RowKit.wrap64 v) : -9223372036854775808 ≤ n ∧ n ≤ 9223372036854775807 := by
  subst h; unfold RowKit.wrap64; omega
theorem wrap64_step {n v d : Int} (h : n = RowKit.wrap64 v) : RowKit.wrap64 (RowKit.wrap64 (10 * n) + d) = RowKit.wrap64 (10 * v + d) := by
  subst h; unfold RowKit.wrap64; omega
theorem str_ab (a b : ByteArray) {A B : List UInt8} (h : a.data.toList = A) (k : b.data.toList = B) : (a.toList == b.toList) = decide (A = B) := by
  rw [Lib.toList_data, Lib.toList_data, h, k, Bool.eq_iff_iff]; simp
theorem c45 {l : List UInt8} (h : 0 < l.length) : (((bt l 0).toNat : Int) == 45) = ngB l := by
  cases l with
  | nil => simp at h
  | cons c r =>
    rw [ngB_cons, show bt (c :: r) 0 = c from rfl, Bool.eq_iff_iff]
    simp only [beq_iff_eq, decide_eq_true_eq]
    omega
set_option maxRecDepth 100000 in
set_option maxHeartbeats 1000000 in
theorem rint_ok (s : ByteArray) (L : List UInt8) (hL : s.data.toList = L) (hs : s.size ≤ 9223372036854775806) (lo hi : Int) (hlo0 : -9223372036854775808 ≤ lo) (hhi0 : hi ≤ 9223372036854775807) (w : World) : Calls Tryz.prog 25 #[.string s, .int .i64 lo, .int .i64 hi] w fun e w' => e = .returned (.tuple #[.int .i64 (intV L lo hi), .int .i64 (intE L lo hi)]) ∧ Below w.heap.size w w' := by
  have hlen := len_of hL
  by_cases hlo : hi < lo
  · have d1 : decide (hi < lo) = true := decide_eq_true hlo
    have HE := Lib.hid (intE_arg (l := L) hlo)
    clear hL
    go_enter Tryz.func25, Tryz.ntmps25
    go_wp2
    go_ret2
    exact ⟨ret_two (intV_no (by rw [HE.out]; decide)).symm HE.out.symm, Below.refl _ _⟩
  · have d1 : decide (hi < lo) = false := decide_eq_false hlo
    have HW := Lib.hid (rwhole_ok s L hL hs)
    cases hw : wholeB L
    · rw [hw] at HW
      have HE := Lib.hid (intE_form (l := L) (lo := lo) (hi := hi) (by omega) hw)
      clear hL hw
      go_enter Tryz.func25, Tryz.ntmps25
      go_wp2_with (go_at_call 39; refine (HW.out _).mono ?_; rintro e w1 ⟨rfl, rfl⟩)
      go_ret2
      exact ⟨ret_two (intV_no (by rw [HE.out]; decide)).symm HE.out.symm, Below.refl _ _⟩
    · rw [hw] at HW
      have HE := Lib.hid (intE_whole (l := L) (lo := lo) (hi := hi) (by omega) hw)
      by_cases h20 : 20 < s.size
      · have HV := Lib.hid (val_long hw (by omega))
        have d2 : decide ((20 : Int) < (s.size : Int)) = true := decide_eq_true (by omega)
        clear hL hw
        go_enter Tryz.func25, Tryz.ntmps25
        go_wp2_with (go_at_call 39; refine (HW.out _).mono ?_; rintro e w1 ⟨rfl, rfl⟩)
        go_ret2
        have h7 : intE L lo hi = 7 := by
          rw [HE.out, if_neg]
          intro h
          exact HV.out ⟨by omega, by omega⟩
        exact ⟨ret_two (intV_no (by rw [h7]; decide)).symm h7.symm, Below.refl _ _⟩
      · have d2 : decide ((20 : Int) < (s.size : Int)) = false := decide_eq_false (by omega)
        have hpos : 0 < s.size := by
          rcases Nat.eq_zero_or_pos s.size with h | h
          · exfalso
            have : L = [] := List.length_eq_zero_iff.1 (by omega)
            subst this
            cases hw
          · exact h
        have hb0 := bt_get hL hpos
        have hb02 := (bt L 0).toNat_lt
        have h45 := c45 (l := L) (by omega)
        have HI := Lib.hid (itoa_inj hw)
        have HST := Lib.hid (fun k h => valZ_step (l := L) (k := k) h)
        have HSK := Lib.hid (fun k h => valZ_skip (l := L) (k := k) h hw)
        obtain ⟨c0, hc0⟩ : ∃ c, (bt L 0).toNat = c := ⟨_, rfl⟩
        rw [hc0] at hb0 hb02 h45
        obtain ⟨g, hg⟩ : ∃ g, ngB L = g := ⟨_, rfl⟩
        rw [hg] at h45 HST
        have HL := Lib.hid hL
        clear hL hw hg hc0
        go_enter Tryz.func25, Tryz.ntmps25
        go_wp2_with (go_at_call 39; refine (HW.out _).mono ?_; rintro e w1 ⟨rfl, rfl⟩)
        clear HW
        go_loop [8, 9, 10] (fun N i _ => ∃ (k : Nat) (n : Int), N = .int .i64 n ∧ i = .int .i64 k ∧ k ≤ s.size ∧ Hid (n = RowKit.wrap64 (valZ (L.take k)))) (fun _ i _ => s.size - (intOf i).toNat)
        case atStart => exact ⟨0, 0, rfl, rfl, Nat.zero_le _, Lib.hid (by rw [List.take_zero]; decide +kernel)⟩
        case round =>
          obtain ⟨k, n, rfl, rfl, hk, HA⟩ := hrel
          by_cases hlt : k < s.size
          · have hb := bt_get HL.out hlt
            have HD := Lib.hid (wrdig_ok (bt L k))
            have hb2 := (bt L k).toNat_lt
            have HT := Lib.hid (HST.out k (by omega))
            have HK := Lib.hid (HSK.out k (by omega))
            have hyes := dgC_yes (c := bt L k)
            obtain ⟨c, hc⟩ : ∃ c, bt L k = c := ⟨_, rfl⟩
            rw [hc] at hb hb2 HD HT HK hyes
            obtain ⟨r, hr⟩ : ∃ r, dgC c = r := ⟨_, rfl⟩
            rw [hr] at HD HT HK hyes
            clear hr hc
            cases r
            · clear hyes
              go_wp2_with (go_at_call 40; refine (HD.out _).mono ?_; rintro e w1 ⟨rfl, rfl⟩)
              go_round
              case rel => exact ⟨k + 1, n, rfl, by go_num, by omega, Lib.hid (by rw [HK.out trivial]; exact HA.out)⟩
              case measure => simp [intOf]; omega
            · have hyes2 := hyes.1 rfl
              clear hyes
              obtain ⟨m, hm⟩ : ∃ m, c.toNat = m := ⟨_, rfl⟩
              have hz := HT.out rfl
              rw [hm] at hb hb2 hyes2 hz HD
              obtain ⟨y1, y2⟩ := hyes2
              have hx1 : IntKind.u8.wrap ((m : Int) - 48) = (m : Int) - 48 := IntWalk.u8_in _ (by omega)
              have hx2 : IntKind.i64.wrap ((m : Int) - 48) = (m : Int) - 48 := IntWalk.i64_in _ (by omega)
              have hx3 : IntKind.i64.wrap (-((m : Int) - 48)) = -((m : Int) - 48) := IntWalk.i64_in _ (by omega)
              clear hm
              cases g
              · rw [if_neg (by simp)] at hz
                have HZ := Lib.hid hz
                clear hz HT HK
                go_wp2_with fail
                refine (HD.out _).mono ?_
                rintro e w1 ⟨rfl, rfl⟩
                clear HD
                go_wp2_with fail
                go_round
                case rel => exact ⟨k + 1, _, rfl, by go_num, by omega, Lib.hid (by rw [HZ.out]; exact wrap64_step HA.out)⟩
                case measure => simp [intOf]; omega
              · rw [if_pos rfl] at hz
                have HZ := Lib.hid hz
                clear hz HT HK
                go_wp2_with fail
                refine (HD.out _).mono ?_
                rintro e w1 ⟨rfl, rfl⟩
                clear HD
                go_wp2_with fail
                go_round
                case rel => exact ⟨k + 1, _, rfl, by go_num, by omega, Lib.hid (by rw [HZ.out]; exact wrap64_step HA.out)⟩
                case measure => simp [intOf]; omega
          · obtain rfl : k = s.size := by omega
            have hA := HA.out
            rw [show L.take s.size = L by rw [← hlen, List.take_length]] at hA
            obtain ⟨n0, n1⟩ := wrap64_rng hA
            have HN := Lib.hid (fun W => rdig_ok n W n0 n1)
            have hne : (Lib.itoa n == s.toList) = decide (Lib.itoa n = L) := by rw [Lib.toList_data, HL.out, Bool.eq_iff_iff]; simp
            have hne2 : Lib.itoa n = s.toList ↔ Lib.itoa n = L := by rw [Lib.toList_data, HL.out]
            by_cases hfit : -9223372036854775808 ≤ valZ L ∧ valZ L ≤ 9223372036854775807
            · have hn := wrap64_in' hA hfit.1 hfit.2
              rw [decide_eq_true ((HI.out n).2 hn)] at hne
              have hne2 := hne2.2 ((HI.out n).2 hn)
              rw [← hn] at HE
              have hV := intV_ok (l := L) (lo := lo) (hi := hi)
              rw [← hn] at hV
              have HV := Lib.hid hV
              clear hV hA hn HI HST HSK HA hb0 h45
              go_wp2_with (go_at_call 24; refine (HN.out _).mono ?_; rintro e w1 ⟨rfl, b1⟩)
              all_goals go_ret2
              all_goals
                have hE := HE.out
                first
                  | (rw [if_pos (by omega)] at hE; exact ⟨ret_two (HV.out hE).symm hE.symm, b1⟩)
                  | (rw [if_neg (by omega)] at hE; exact ⟨ret_two (intV_no (by rw [hE]; decide)).symm hE.symm, b1⟩)
            · have hnn : ¬ Lib.itoa n = L := fun e => by have := (HI.out n).1 e; omega
              rw [decide_eq_false hnn] at hne
              have hne2 : ¬ Lib.itoa n = s.toList := fun e => hnn (hne2.1 e)
              have h7 : intE L lo hi = 7 := by
                rw [HE.out, if_neg]
                intro h
                exact hfit ⟨by omega, by omega⟩
              have H7 := Lib.hid h7
              clear h7 hA HI HST HSK HA hb0 h45 HE hfit hnn
              go_wp2_with (go_at_call 24; refine (HN.out _).mono ?_; rintro e w1 ⟨rfl, b1⟩)
              go_ret2
              exact ⟨ret_two (intV_no (by rw [H7.out]; decide)).symm H7.out.symm, b1⟩
end Go.Proofs.YthmknaoelmeniaaGreatDoor

namespace Go.Proofs.YthmknaoelmeniaaGreatDoor
open Go.RowKit Go.Sort Go.Joins
attribute [local go_sem] cell_grow frozen_grow size_grow

theorem prB_all {m : Nat} {l : List UInt8} : prB m l = true ↔ ∀ j, j < l.length → m ≤ (bt l j).toNat ∧ (bt l j).toNat ≤ 126 := by
  unfold prB
  rw [List.all_eq_true]
  constructor
  · intro h j hj
    have := h (bt l j) (by rw [List.mem_iff_getElem?]; exact ⟨j, bt_at hj⟩)
    simpa using this
  · intro h x hx
    obtain ⟨i, hi⟩ := List.mem_iff_getElem?.1 hx
    have hlt : i < l.length := by
      rcases Nat.lt_or_ge i l.length with h' | h'
      · exact h'
      · rw [List.getElem?_eq_none h'] at hi; cases hi
    rw [bt_at hlt] at hi
    cases hi
    simpa using h i hlt
theorem prB_no {m : Nat} {l : List UInt8} {j : Nat} (hj : j < l.length) (h : ¬ (m ≤ (bt l j).toNat ∧ (bt l j).toNat ≤ 126)) : prB m l = false := by
  cases hp : prB m l
  · rfl
  · exact absurd (prB_all.1 hp j hj) h
theorem txB_no {l : List UInt8} {j : Nat} (hj : j < l.length) (h : ¬ (32 ≤ (bt l j).toNat ∧ (bt l j).toNat ≤ 126)) : txB l = false := by
  unfold txB; rw [prB_no hj h]; rfl
theorem txB_len {l : List UInt8} (h : ∀ j, j < l.length → 32 ≤ (bt l j).toNat ∧ (bt l j).toNat ≤ 126) : txB l = decide (l.length ≤ 200) := by
  unfold txB; rw [prB_all.2 h, Bool.true_and]
theorem rtB_no {l : List UInt8} {j : Nat} (hj : j < l.length) (h : (bt l j).toNat = 32 ∨ (bt l j).toNat = 34) : rtB l = false := by
  cases hr : rtB l
  · rfl
  · exfalso
    obtain ⟨_, ⟨h1, h2⟩, _⟩ := rtB_yes.1 hr
    have hm : bt l j ∈ l := by rw [List.mem_iff_getElem?]; exact ⟨j, bt_at hj⟩
    rcases h with h | h
    · exact h1 (by rw [← show bt l j = 32 from UInt8.toNat_inj.1 h]; exact hm)
    · exact h2 (by rw [← show bt l j = 34 from UInt8.toNat_inj.1 h]; exact hm)
theorem rtB_tx {l : List UInt8} (h0 : l ≠ []) (h : ∀ j, j < l.length → (bt l j).toNat ≠ 32 ∧ (bt l j).toNat ≠ 34) : rtB l = txB l := by
  have key : ∀ c : UInt8, c ∈ l → c.toNat ≠ 32 ∧ c.toNat ≠ 34 := by
    intro c hc
    obtain ⟨i, hi⟩ := List.mem_iff_getElem?.1 hc
    have hlt : i < l.length := by
      rcases Nat.lt_or_ge i l.length with h' | h'
      · exact h'
      · rw [List.getElem?_eq_none h'] at hi; cases hi
    rw [bt_at hlt] at hi
    cases hi
    exact h i hlt
  rw [Bool.eq_iff_iff, rtB_yes]
  constructor
  · exact fun h => h.2.2
  · exact fun h' => ⟨h0, ⟨fun hm => (key _ hm).1 rfl, fun hm => (key _ hm).2 rfl⟩, h'⟩
theorem drop_bt {l : List UInt8} {k : Nat} (h : k < l.length) : l.drop k = bt l k :: l.drop (k + 1) := by
  rw [List.drop_eq_getElem_cons h]
  congr 1
  have := bt_at h
  rw [List.getElem?_eq_getElem h] at this
  exact Option.some.inj this
theorem u8_of {c : UInt8} {n : Nat} (h : c.toNat = n) (hn : n < 256) : c = UInt8.ofNat n := by
  apply UInt8.toNat_inj.1
  rw [h]; simp; omega
end Go.Proofs.YthmknaoelmeniaaGreatDoor

namespace Go.Proofs.YthmknaoelmeniaaGreatDoor
open Go.RowKit Go.Sort Go.Joins
attribute [local go_sem] cell_grow frozen_grow size_grow

theorem und_nil : und [] = some [] := rfl
theorem und_q1 : und [34] = none := by rw [und, if_pos rfl]
theorem und_qq (r : List UInt8) : und (34 :: 34 :: r) = (und r).map (34 :: ·) := by rw [und, if_pos rfl, if_pos rfl]
theorem und_qe {d : UInt8} (r : List UInt8) (h : d ≠ 34) : und (34 :: d :: r) = none := by rw [und, if_pos rfl, if_neg h]
theorem und_c {c : UInt8} (r : List UInt8) (h : c ≠ 34) : und (c :: r) = (und r).map (c :: ·) := by
  cases r with
  | nil => show (if c = 34 then none else some [c]) = _; rw [if_neg h]; rfl
  | cons d t => rw [und, if_neg h]
theorem map_app (o : Option (List UInt8)) (X : List UInt8) (c : UInt8) : (o.map (c :: ·)).map (X ++ ·) = o.map ((X ++ [c]) ++ ·) := by
  cases o with
  | none => rfl
  | some u => simp
theorem quB_bt {l : List UInt8} (h : 2 ≤ l.length) : quB l = (decide (bt l 0 = 34) && decide (bt l (l.length - 1) = 34)) := by
  unfold quB
  rw [decide_eq_true h, Bool.true_and]
  have h1 : l.head? = some (bt l 0) := by rw [← bt_at (by omega : 0 < l.length)]; cases l <;> rfl
  have h2 : l.getLast? = some (bt l (l.length - 1)) := by rw [← bt_at (by omega : l.length - 1 < l.length), List.getLast?_eq_getElem?]
  rw [h1, h2]
  congr 1 <;> simp
theorem unq_no {l : List UInt8} (h : quB l = false) : unq l = none := by unfold unq; rw [h]; rfl
theorem unq_und {l : List UInt8} (h : quB l = true) : unq l = (und (inn l)).filter txB := by unfold unq; rw [h, if_pos rfl]
theorem inn_len {l : List UInt8} : (inn l).length = l.length - 2 := by unfold inn; rw [List.length_dropLast, List.length_tail]; omega
theorem inn_bt {l : List UInt8} {j : Nat} (h : j + 2 < l.length) : bt l (j + 1) = bt (inn l) j := by
  have h1 := bt_at (l := inn l) (k := j) (by rw [inn_len]; omega)
  have h2 := bt_at (l := l) (k := j + 1) (by omega)
  unfold inn at h1
  rw [List.getElem?_dropLast, if_pos (by rw [List.length_tail]; omega), List.getElem?_tail, h2] at h1
  exact Option.some.inj h1
theorem take_ext {s : ByteArray} {l : List UInt8} (hL : s.data.toList = l) {k : Nat} (h : k < l.length) : (s.extract k (k + 1)).data.toList = [bt l k] := by
  rw [ByteArray.data_extract, Array.toList_extract, hL, List.extract_eq_take_drop, drop_bt h]
  rw [show k + 1 - k = 1 by omega]
  rfl
theorem app_list (a b : ByteArray) : (a ++ b).data.toList = a.data.toList ++ b.data.toList := by rw [ByteArray.data_append, Array.toList_append]
/-- the error of Unquote -/
def unqE (l : List UInt8) : Int := if unq l = none then 6 else 0
def unqR (l : List UInt8) : List UInt8 := (unq l).getD []
theorem unq_6 {l : List UInt8} (h : unq l = none) : unqE l = 6 ∧ unqR l = [] := by unfold unqE unqR; rw [h]; exact ⟨rfl, rfl⟩
theorem unq_0 {l u : List UInt8} (h : unq l = some u) : unqE l = 0 ∧ unqR l = u := by unfold unqE unqR; rw [h]; exact ⟨rfl, rfl⟩
end Go.Proofs.YthmknaoelmeniaaGreatDoor

namespace Go.Proofs.YthmknaoelmeniaaGreatDoor
open Go.RowKit Go.Sort Go.Joins Go.Shelf
attribute [local go_sem] cell_grow frozen_grow size_grow

/-- the number that the library reads is there -/
def ML (w : World) : Prop := ∃ m : Int, w.cell? ⟨1, 0, none⟩ = some (.int .i64 m)
theorem ML.below {w w' : World} (h : ML w) (hb : Below w.heap.size w w') : ML w' := h.elim fun m hm => ⟨m, cell_later hb hm⟩
/-- a slice that reads as texts -/
def SlT (w : World) (a : Option Addr) (ls : List (List UInt8)) : Prop := ls = [] ∨ ∃ b o, a = some ⟨b, o, none⟩ ∧ ∀ j, j < ls.length → ∃ S : ByteArray, w.cell? ⟨b, o + j, none⟩ = some (.string S) ∧ S.data.toList = ls.getD j []
theorem SlT.below {w w' : World} {a : Option Addr} {ls : List (List UInt8)} (h : SlT w a ls) (hb : Below w.heap.size w w') : SlT w' a ls := by
  rcases h with h | ⟨b, o, ha, hc⟩
  · exact .inl h
  · refine .inr ⟨b, o, ha, fun j hj => ?_⟩
    obtain ⟨S, h1, h2⟩ := hc j hj
    exact ⟨S, cell_later hb h1, h2⟩
theorem SlT.at_ {w : World} {a : Option Addr} {ls : List (List UInt8)} (h : SlT w a ls) {j : Nat} (hj : j < ls.length) : ∃ b o S, a = some ⟨b, o, none⟩ ∧ w.cell? ⟨b, o + j, none⟩ = some (.string S) ∧ S.data.toList = ls.getD j [] := by
  rcases h with rfl | ⟨b, o, ha, hc⟩
  · simp at hj
  · obtain ⟨S, h1, h2⟩ := hc j hj
    exact ⟨b, o, S, ha, h1, h2⟩
theorem split_ok (s : ByteArray) (L : List UInt8) (hL : s.data.toList = L) (c : UInt8) (hs : s.size < 4294967281) (w : World) (hM : ML w) :
    Calls Tryz.prog 20 #[.string s, .string ⟨#[c]⟩] w fun e w' => ∃ b, e = .returned (.slice (some ⟨b, 0, none⟩) (spl c L).length (spl c L).length) ∧ SlT w' (some ⟨b, 0, none⟩) (spl c L) ∧ Below w.heap.size w w' := by
  obtain ⟨m, hm⟩ := hM
  have hsp := splB_one c s
  rw [hL] at hsp
  have hct : Lib.countB s ⟨#[c]⟩ + 1 = (spl c L).length := by rw [cntB_one, hL, spl_len]
  refine (Tryz.strings_Split s ⟨#[c]⟩ m w hs hm (Nat.le_refl 1)).mono ?_
  rintro e w' ⟨rfl, rfl⟩
  refine ⟨w.heap.size, by rw [hct], ?_, below_box0 w _⟩
  refine .inr ⟨_, _, rfl, fun j hj => ?_⟩
  obtain ⟨B, hB⟩ : ∃ B, Lib.splitB ⟨#[c]⟩ 0 (Lib.countB s ⟨#[c]⟩) s = B := ⟨_, rfl⟩
  rw [hB] at hsp ⊢
  have hBl : B.length = (spl c L).length := by rw [← hsp, List.length_map]
  have hj2 : j < B.length := by omega
  refine ⟨B[j], ?_, ?_⟩
  · rw [Nat.zero_add, cell_of_block (heap_alloc_new w _)]
    simp [hj2]
  · rw [← hsp, List.getD_eq_getElem?_getD, List.getElem?_map, List.getElem?_eq_getElem hj2]; rfl
theorem suf_one (l : List UInt8) (c : UInt8) : Lib.hasSuffix l [c] = decide (l.getLast? = some c) := by
  unfold Lib.hasSuffix
  rw [Bool.eq_iff_iff, List.isSuffixOf_iff_suffix, decide_eq_true_eq]
  constructor
  · rintro ⟨t, rfl⟩
    simp
  · intro h
    have hne : l ≠ [] := by rintro rfl; cases h
    rw [List.getLast?_eq_some_getLast hne] at h
    refine ⟨l.dropLast, ?_⟩
    rw [← Option.some.inj h]
    exact List.dropLast_concat_getLast hne
end Go.Proofs.YthmknaoelmeniaaGreatDoor

namespace Go.Proofs.YthmknaoelmeniaaGreatDoor
open Go.RowKit Go.Sort Go.Joins

def splT (l : List UInt8) : Option (List Fl) := splF l.length l
theorem splT_nil : splT [] = some [] := rfl
/-- one step -/
theorem splT_cons (c : UInt8) (r : List UInt8) : splT (c :: r) = match fld1 ((c :: r).take (fend (c :: r))) with
    | none => none
    | some x =>
      match (c :: r).drop (fend (c :: r)) with
      | [] => some [x]
      | [_] => none
      | d :: e :: t => if d = 32 then (splT (e :: t)).map (x :: ·) else none := by
  unfold splT
  rw [List.length_cons, splF]
  cases hx : fld1 ((c :: r).take (fend (c :: r))) with
  | none => rfl
  | some x =>
    have hp := fend_pos (c := c) (r := r) (by rw [hx]; simp)
    dsimp only
    cases hd : (c :: r).drop (fend (c :: r)) with
    | nil => rfl
    | cons d t =>
      cases t with
      | nil => rfl
      | cons e t =>
        have hl := congrArg List.length hd
        simp only [List.length_drop, List.length_cons] at hl
        dsimp only
        rw [splF_more r.length (e :: t) (by simp only [List.length_cons]; omega) _ (Nat.le_refl _)]
section
variable {L : List UInt8} {f : Nat}
theorem spl_none (hf : f < L.length) (h : fld1 ((L.drop f).take (fend (L.drop f))) = none) : splT (L.drop f) = none := by
  rw [drop_bt hf] at h ⊢
  rw [splT_cons, h]
theorem spl_last (hf : f < L.length) {x : Fl} (h : fld1 ((L.drop f).take (fend (L.drop f))) = some x) (hk : L.length ≤ f + fend (L.drop f)) : splT (L.drop f) = some [x] := by
  have hd : (L.drop f).drop (fend (L.drop f)) = [] := by rw [List.drop_drop]; exact List.drop_eq_nil_of_le hk
  rw [drop_bt hf] at h hd ⊢
  rw [splT_cons, h, hd]
theorem spl_bad (hf : f < L.length) {x : Fl} (h : fld1 ((L.drop f).take (fend (L.drop f))) = some x) {z : Nat} (hz : f + fend (L.drop f) = z) (hk : z < L.length) (hb : bt L z ≠ 32 ∨ z + 1 = L.length) : splT (L.drop f) = none := by
  have hd : (L.drop f).drop (fend (L.drop f)) = bt L z :: L.drop (z + 1) := by rw [List.drop_drop, hz]; exact drop_bt hk
  rw [drop_bt hf] at h hd ⊢
  rw [splT_cons, h, hd]
  rcases hb with hb | hb
  · cases L.drop (z + 1) with
    | nil => rfl
    | cons e t => dsimp only; rw [if_neg hb]
  · rw [List.drop_eq_nil_of_le (by omega)]
theorem spl_go (hf : f < L.length) {x : Fl} (h : fld1 ((L.drop f).take (fend (L.drop f))) = some x) {z : Nat} (hz : f + fend (L.drop f) = z) (hk : z + 1 < L.length) (hb : bt L z = 32) : splT (L.drop f) = (splT (L.drop (z + 1))).map (x :: ·) := by
  have hd : (L.drop f).drop (fend (L.drop f)) = bt L z :: L.drop (z + 1) := by rw [List.drop_drop, hz]; exact drop_bt (by omega)
  rw [drop_bt hf] at h hd ⊢
  rw [splT_cons, h, hd, drop_bt hk]
  dsimp only
  rw [if_pos hb]
end
theorem map_snoc (o : Option (List Fl)) (X : List Fl) (x : Fl) : (o.map (x :: ·)).map (X ++ ·) = o.map ((X ++ [x]) ++ ·) := by
  cases o with
  | none => rfl
  | some u => simp
theorem splE_eq (l : List UInt8) : splE l = if 4096 < l.length then 3 else match splT l with | none => 6 | some f => if 64 < f.length then 3 else 0 := rfl
theorem splE_long {l : List UInt8} (h : 4096 < l.length) : splE l = 3 ∧ splR l = [] := by
  have he : splE l = 3 := by rw [splE_eq, if_pos h]
  refine ⟨he, ?_⟩
  unfold splR; rw [if_neg (by rw [he]; decide)]
theorem splE_form {l : List UInt8} (h : ¬ 4096 < l.length) (h2 : splT l = none) : splE l = 6 ∧ splR l = [] := by
  have he : splE l = 6 := by rw [splE_eq, if_neg h, h2]
  refine ⟨he, ?_⟩
  unfold splR; rw [if_neg (by rw [he]; decide)]
theorem splE_many {l : List UInt8} (h : ¬ 4096 < l.length) {fs : List Fl} (h2 : splT l = some fs) (h3 : 64 < fs.length) : splE l = 3 ∧ splR l = [] := by
  have he : splE l = 3 := by rw [splE_eq, if_neg h, h2]; exact if_pos h3
  refine ⟨he, ?_⟩
  unfold splR; rw [if_neg (by rw [he]; decide)]
theorem splE_ok {l : List UInt8} (h : ¬ 4096 < l.length) {fs : List Fl} (h2 : splT l = some fs) (h3 : ¬ 64 < fs.length) : splE l = 0 ∧ splR l = fs := by
  have he : splE l = 0 := by rw [splE_eq, if_neg h, h2]; exact if_neg h3
  refine ⟨he, ?_⟩
  unfold splR; rw [if_pos he]
  show (splT l).getD [] = fs
  rw [h2]; rfl
/-- a slice that reads as fields -/
def SlF (w : World) (a : Option Addr) (fs : List Fl) : Prop := fs = [] ∨ ∃ b o, a = some ⟨b, o, none⟩ ∧ ∀ j, j < fs.length → w.cell? ⟨b, o + 2 * j, none⟩ = some (.bool (fs.getD j (false, [])).1) ∧ ∃ S : ByteArray, w.cell? ⟨b, o + 2 * j + 1, none⟩ = some (.string S) ∧ S.data.toList = (fs.getD j (false, [])).2
theorem SlF.below {w w' : World} {a : Option Addr} {fs : List Fl} (h : SlF w a fs) (hb : Below w.heap.size w w') : SlF w' a fs := by
  rcases h with h | ⟨b, o, ha, hc⟩
  · exact .inl h
  · refine .inr ⟨b, o, ha, fun j hj => ?_⟩
    obtain ⟨h1, S, h2, h3⟩ := hc j hj
    exact ⟨cell_later hb h1, S, cell_later hb h2, h3⟩
/-- fields as cells -/
def flc (X : List (Bool × ByteArray)) : List Value := X.flatMap fun x => [.bool x.1, .string x.2]
theorem flc_snoc (X : List (Bool × ByteArray)) (x : Bool × ByteArray) : flc (X ++ [x]) = flc X ++ [.bool x.1, .string x.2] := by simp [flc]
theorem flc_get (X : List (Bool × ByteArray)) (k : Nat) (h : k < X.length) : (flc X)[2 * k]? = some (.bool X[k].1) ∧ (flc X)[2 * k + 1]? = some (.string X[k].2) := by
  induction X generalizing k with
  | nil => simp at h
  | cons x X ih =>
    cases k with
    | zero => simp [flc]
    | succ k =>
      have := ih k (by simpa using h)
      simp only [flc, List.flatMap_cons] at this ⊢
      rw [List.getElem?_append_right (by simp; omega), List.getElem?_append_right (by simp; omega)]
      simpa [show 2 * (k + 1) - 2 = 2 * k by omega, show 2 * (k + 1) + 1 - 2 = 2 * k + 1 by omega] using this
theorem flc_length (X : List (Bool × ByteArray)) : (flc X).length = X.length * 2 := by
  induction X with
  | nil => rfl
  | cons x X ih => show ([_, _] ++ flc X).length = _; rw [List.length_append, ih]; simp; omega
/-- what they say -/
def fls (X : List (Bool × ByteArray)) : List Fl := X.map fun x => (x.1, x.2.data.toList)
theorem SlF.of_own {w : World} {base len cap : Nat} {e : TypeId} {a : Option Addr} {X : List (Bool × ByteArray)} (h : w.ownsRow base e 2 (.slice a len cap) X.length (flc X)) : SlF w a (fls X) := by
  by_cases h0 : X.length = 0
  · left
    have : X = [] := List.length_eq_zero_iff.1 h0
    rw [this]; rfl
  · obtain ⟨g, cap', hv⟩ := ownsRow_form h (by omega)
    cases hv
    refine .inr ⟨g, 0, rfl, fun j hj => ?_⟩
    have hj' : j < X.length := by unfold fls at hj; rwa [List.length_map] at hj
    obtain ⟨e0, e1⟩ := flc_get X j hj'
    have hl := flc_length X
    have c0 := h.cellAt (2 * j) (by omega)
    have c1 := h.cellAt (2 * j + 1) (by omega)
    rw [e0] at c0
    rw [e1] at c1
    have hg : (fls X).getD j (false, []) = (X[j].1, X[j].2.data.toList) := by
      unfold fls
      rw [List.getD_eq_getElem?_getD, List.getElem?_map, List.getElem?_eq_getElem hj']; rfl
    rw [Nat.zero_add, hg]
    exact ⟨c0, X[j].2, c1, rfl⟩
theorem info_field : (Tryz.prog.info? 39).map (fun i => (i.zero, i.size, i.bytes)) = some (some (.agg #[.bool false, .string ⟨#[]⟩]), 2, 24) := by kernel_rfl
end Go.Proofs.YthmknaoelmeniaaGreatDoor

namespace Go.Proofs.YthmknaoelmeniaaGreatDoor
open Go.RowKit Go.Sort Go.Joins
attribute [local go_sem] cell_grow frozen_grow size_grow

theorem ext_list {s : ByteArray} {L : List UInt8} (hL : s.data.toList = L) (f z : Nat) : (s.extract f z).data.toList = (L.drop f).take (z - f) := by
  rw [ByteArray.data_extract, Array.toList_extract, hL, List.extract_eq_take_drop]
theorem fld1_q {L : List UInt8} {f : Nat} (hf : f < L.length) (h : (bt L f).toNat = 34) : fld1 ((L.drop f).take (fend (L.drop f))) = (unq ((L.drop f).take (fend (L.drop f)))).map (fun u => (true, u)) := by
  have hb : bt L f = 34 := UInt8.toNat_inj.1 h
  rw [drop_bt hf, hb]
  unfold fld1
  rw [if_pos]
  rw [fend_q, Nat.add_comm, List.take_succ_cons]; rfl
theorem fld1_u {L : List UInt8} {f : Nat} (hf : f < L.length) (h : (bt L f).toNat ≠ 34) : fld1 ((L.drop f).take (fend (L.drop f))) = if rtB ((L.drop f).take (fend (L.drop f))) then some (false, (L.drop f).take (fend (L.drop f))) else none := by
  have hb : bt L f ≠ 34 := fun e => h (by rw [e]; rfl)
  rw [drop_bt hf]
  have : ((bt L f :: L.drop (f + 1)).take (fend (bt L f :: L.drop (f + 1)))).head? ≠ some 34 := by
    cases fend (bt L f :: L.drop (f + 1)) with
    | zero => simp
    | succ n => rw [List.take_succ_cons]; simpa using hb
  generalize (bt L f :: L.drop (f + 1)).take (fend (bt L f :: L.drop (f + 1))) = T at *
  unfold fld1
  rw [if_neg this]
theorem unq_len {l u : List UInt8} (h : unq l = some u) : u.length ≤ l.length := by
  obtain ⟨_, h2⟩ := unq_some h
  have := dbl_len u
  rw [← h2]
  unfold qtL
  simp only [List.length_cons, List.length_append, List.length_nil]
  omega
theorem fls_len (X : List (Bool × ByteArray)) : (fls X).length = X.length := by unfold fls; rw [List.length_map]
theorem own_belowS {w w' : World} {base : Nat} {e : TypeId} {size : Nat} {v : Value} {n : Nat} {xs : List Value} (h : w.ownsRow base e size v n xs) (hb : Below w.heap.size w w') : w'.ownsRow base e size v n xs := own_below h hb
/-- what Split hands back -/
def SplPost (w : World) (fs : List Fl) (E : Int) (x : Ending) (w' : World) : Prop :=
  ∃ a c, x = .returned (.tuple #[.slice a fs.length c, .int .i64 E]) ∧ SlF w' a fs ∧ Below w.heap.size w w'
theorem SplPost.none {w w' : World} {E : Int} (h : Below w.heap.size w w') : SplPost w [] E (.returned (.tuple #[.slice none 0 0, .int .i64 E])) w' := ⟨_, _, rfl, .inl rfl, h⟩
abbrev FB (W : World) (g : Nat) (b : Bool) (S : ByteArray) : Prop := W.heap[g]? = some (.cells #[.bool b, .string S] 39 (0, 0))
end Go.Proofs.YthmknaoelmeniaaGreatDoor
