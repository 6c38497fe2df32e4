/- Package bits: next, Next. | Plain facts: bits packed into words. No program. | Package bits: fill. | slices.Clone of words; package bits: New, Set. | Package bits: New. -/
import Derived.Test.YtpaecmpiokkdnaaDoorTypesZ2
import Derived.Lib.SmallJoins
import Derived.Deep.OwnRows
import Derived.OneCell
namespace Go.Proofs.YtpaecmpiokkdnaaDoor
open Go.RowKit Go.Sort
attribute [local go_sem] cell_grow frozen_grow size_grow

theorem tz_test (x : Int) (w : World) (hT : Tab w) (ht : (x != 0) = true) (hr : 0 ≤ x ∧ x < 18446744073709551616) :
    Calls Tryd.prog 85 #[.int .u64 x] w fun e w' => e = .returned (.int .i64 (Lib.ctz 64 x.toNat : Nat)) ∧ w = w' := by
  have : x ≠ 0 := by simpa using ht
  exact tz_int x w hT (by omega) hr.2

/-- the word that next looks at -/
theorem nx_word (ws : List Nat) (on : Bool) (n f k : Nat) : bits BinOp.and IntKind.u64 ((wrd (ws[k]?.getD 0) on (min 64 (n - 64 * k)) : Nat) : Int) ((mk (if (k : Int) * 64 < (f : Int) then (f : Int) - (k : Int) * 64 else 0).toNat 64 : Nat) : Int) =
    ((wrd (ws.getD k 0) on (min 64 (n - 64 * k)) &&& mk (f - 64 * k) 64 : Nat) : Int) := by
  rw [lo_nat, u64_and_nat _ _ (wrd_lt _ _ _) (mk_lt _ _), List.getD_eq_getElem?_getD]

set_option maxHeartbeats 800000 in
theorem bnext_ok (B : Nat) (n f : Nat) (on : Bool) (a : Option Addr) (len cap : Nat) (ws : List Nat) (w : World) (hT : Tab w) (hB : AtBits w B n a len cap) (hs : SlK .u64 w a len ws) (hw : ∀ x ∈ ws, x < 18446744073709551616) (hf : f ≤ n) (hn : n ≤ 4096) (hl : len = (n + 63) / 64) :
    Calls Tryd.prog 79 #[.pointer (some ⟨B, 0, none⟩), .int .i64 f, .bool on] w fun e w' => e = .returned (.int .i64 (nxt (look ws on) f n : Nat)) ∧ ∃ m, w' = w.drewN m := by
  have Hl := Lib.hid hl
  have hlu : len ≤ 64 := by omega
  clear hl
  go_enter Tryd.func79, Tryd.ntmps79
  go_wp2
  go_loopw [7] (fun i wr => ∃ k : Nat, f / 64 ≤ k ∧ k ≤ len ∧ i = .int .i64 k ∧ (∀ i, f ≤ i → i < min n (64 * k) → look ws on i = false) ∧ ∃ m, wr = w.drewN m) (fun i _ => len - (intOf i).toNat)
  case atStart => exact ⟨f / 64, Nat.le_refl _, by have := Hl.out; omega, by go_num, fun i h1 h2 => by omega, 0, rfl⟩
  case round =>
    obtain ⟨k, hk1, hk2, rfl, hpre, m, hm⟩ := hrel
    have Hm := Lib.hid hm
    have Hp := Lib.hid hpre
    have hTr : Tab wr := by rw [hm]; exact hT
    have hBr : AtBits wr B n a len cap := by rw [hm]; exact ⟨hB.n, hB.s⟩
    have hsr : SlK .u64 wr a len ws := by rw [hm]; exact ⟨hs.length, hs.cells⟩
    have c0 := hBr.n
    have c1 := hBr.s
    clear hm hpre
    by_cases hlt : k < len
    · have hkn : 64 * k ≤ n := by have := Hl.out; omega
      have hX := nx_word ws on n f k
      obtain ⟨X, hXd⟩ : ∃ X : Nat, X = wrd (ws.getD k 0) on (min 64 (n - 64 * k)) &&& mk (f - 64 * k) 64 := ⟨_, rfl⟩
      rw [← hXd] at hX
      have hXr : X < 18446744073709551616 := by rw [hXd]; exact Nat.lt_of_le_of_lt Nat.and_le_left (wrd_lt _ _ _)
      have HX := Lib.hid hXd
      clear hXd
      by_cases h0 : X = 0
      · have hb : ((X : Int) != 0) = false := by simpa using h0
        have H0 := Lib.hid h0
        clear h0
        go_wp2_with (first
          | (go_at_call 84; refine (bword_ok B n k on a len cap ws _ hBr hsr hw hlt hkn hn).mono ?_; rintro e w1 ⟨rfl, m1, rfl⟩)
          | (go_at_call 82; refine (mask_int _ _ _ (by omega) (by omega) (by omega) (by omega)).mono ?_; rintro e w1 ⟨rfl, m2, rfl⟩))
        all_goals go_roundw
        all_goals first
          | (refine ⟨k + 1, by omega, by omega, by go_num, fun i h1 h2 => ?_, drewN_of Hm.out _⟩
             by_cases hik : i < 64 * k
             · exact Hp.out i h1 (by omega)
             · exact next_none hw (by rw [← HX.out]; exact H0.out) (by omega) i h1 (by omega) (by omega))
          | (simp [intOf]; omega)
      · have hb : ((X : Int) != 0) = true := by simpa using h0
        have R := Lib.hid (next_some (ws := ws) (on := on) (n := n) (f := f) (k := k) hw (by rw [← HX.out]; exact h0) (by omega) hf Hp.out)
        have hcz := (ctz_bit h0 hXr).1
        go_wp2_with (first
          | (go_at_call 84; refine (bword_ok B n k on a len cap ws _ hBr hsr hw hlt hkn hn).mono ?_; rintro e w1 ⟨rfl, m1, rfl⟩)
          | (go_at_call 82; refine (mask_int _ _ _ (by omega) (by omega) (by omega) (by omega)).mono ?_; rintro e w1 ⟨rfl, m2, rfl⟩)
          | (go_at_call 85; refine (tz_ok X _ (by exact hTr) h0 hXr).mono ?_; rintro e w1 ⟨rfl, rfl⟩))
        all_goals go_ret
        all_goals exact ⟨ret_i64 (by rw [R.out, ← HX.out]; omega), drewN_of Hm.out _⟩
    · go_wp2
      go_ret
      refine ⟨ret_i64 ?_, _, Hm.out⟩
      have e : nxt (look ws on) f n = n := nxt_eq hf hf (Nat.le_refl _) (fun i h1 h2 => Hp.out i h1 (by have := Hl.out; omega)) (fun h => absurd h (by omega))
      rw [e]
/-- what Next returns -/
def nextV (N : Int) (ws : List Nat) (f : Int) (on : Bool) : Int := if prt N ws 0 f = 0 ∧ nxt (look ws on) f.toNat N.toNat < N.toNat then ((nxt (look ws on) f.toNat N.toNat : Nat) : Int) else 0
def nextE (N : Int) (ws : List Nat) (f : Int) (on : Bool) : Int := if prt N ws 0 f ≠ 0 then prt N ws 0 f else if nxt (look ws on) f.toNat N.toNat < N.toNat then 0 else 4

set_option maxHeartbeats 800000 in
theorem bNext_ok (N f : Int) (on : Bool) (a : Option Addr) (len cap : Nat) (ws : List Nat) (w : World) (hT : Tab w) (hs : SlK .u64 w a len ws) (hw : ∀ x ∈ ws, x < 18446744073709551616) (hlen : len ≤ 9223372036854775807) :
    Calls Tryd.prog 53 #[.agg #[.int .i64 N, .slice a len cap], .int .i64 f, .bool on] w fun e w' => e = .returned (.tuple #[.int .i64 (nextV N ws f on), .int .i64 (nextE N ws f on)]) ∧ Below w.heap.size w w' := by
  have hL := hs.length
  by_cases hp : prt N ws 0 f = 0
  · obtain ⟨hc, _, hf, hfN⟩ := prt_zero hp
    obtain ⟨hN0, hN, hl, _⟩ := chk_zero hc
    have hpb := bne0_false hp
    obtain ⟨f, rfl⟩ := Int.eq_ofNat_of_zero_le hf
    obtain ⟨n, rfl⟩ := Int.eq_ofNat_of_zero_le hN0
    have R1 : nextV n ws f on = if nxt (look ws on) f n < n then ((nxt (look ws on) f n : Nat) : Int) else 0 := by unfold nextV; simp [hp]
    have R2 : nextE n ws f on = if nxt (look ws on) f n < n then 0 else 4 := by unfold nextE; simp [hp]
    have hl' : len = (n + 63) / 64 := by omega
    obtain ⟨_, hr2, _, _⟩ := nxt_spec (p := look ws on) (a := f) (n := n) (by omega)
    have R1 := Lib.hid R1
    have R2 := Lib.hid R2
    have HL := Lib.hid hl'
    clear hp hc hL hl hl'
    by_cases hr : nxt (look ws on) f n < n
    · have hd : decide (((nxt (look ws on) f n : Nat) : Int) < (n : Int)) = true := by simpa using hr
      go_enter Tryd.func53, Tryd.ntmps53
      go_wp2_with (go_at_call 78; refine (bpart_ok _ n 0 f a len cap ws _ (AtBits.new w n a len cap _) (hs.alloc _) hw hlen).mono ?_; rintro e w1 ⟨rfl, hb⟩; obtain ⟨⟨d1, os1⟩, rfl⟩ := regrown_of_below hb; clear hb)
      refine (bnext_ok w.heap.size n f on a len cap ws _ ((hT.alloc _).grow _ _) ((AtBits.new w n a len cap _).below (below_grow _ _ _)) ((hs.alloc _).grow _ _) hw (by omega) (by omega) HL.out).mono ?_
      rintro e w1 ⟨rfl, m, rfl⟩
      go_wp2
      go_ret2
      exact ⟨ret_two (by rw [R1.out, if_pos hr]) (by rw [R2.out, if_pos hr]), (below_box0 _ _).trans ((grow_drewN _ _ _ _).mono (by simp))⟩
    · have hd : decide (((nxt (look ws on) f n : Nat) : Int) < (n : Int)) = false := by simp; omega
      go_enter Tryd.func53, Tryd.ntmps53
      go_wp2_with (go_at_call 78; refine (bpart_ok _ n 0 f a len cap ws _ (AtBits.new w n a len cap _) (hs.alloc _) hw hlen).mono ?_; rintro e w1 ⟨rfl, hb⟩; obtain ⟨⟨d1, os1⟩, rfl⟩ := regrown_of_below hb; clear hb)
      refine (bnext_ok w.heap.size n f on a len cap ws _ ((hT.alloc _).grow _ _) ((AtBits.new w n a len cap _).below (below_grow _ _ _)) ((hs.alloc _).grow _ _) hw (by omega) (by omega) HL.out).mono ?_
      rintro e w1 ⟨rfl, m, rfl⟩
      go_wp2
      go_ret2
      exact ⟨ret_two (by rw [R1.out, if_neg hr]) (by rw [R2.out, if_neg hr]), (below_box0 _ _).trans ((grow_drewN _ _ _ _).mono (by simp))⟩
  · have hpb := bne0_true hp
    have R1 : nextV N ws f on = 0 := by unfold nextV; rw [if_neg (fun h => hp h.1)]
    have R2 : nextE N ws f on = prt N ws 0 f := by unfold nextE; rw [if_pos hp]
    have R1 := Lib.hid R1
    have R2 := Lib.hid R2
    clear hp
    go_enter Tryd.func53, Tryd.ntmps53
    go_wp2_with (go_at_call 78; refine (bpart_ok _ N 0 f a len cap ws _ (AtBits.new w N a len cap _) (hs.alloc _) hw hlen).mono ?_; rintro e w1 ⟨rfl, hb⟩; obtain ⟨⟨d1, os1⟩, rfl⟩ := regrown_of_below hb; clear hb)
    go_ret2
    exact ⟨ret_two R1.out.symm R2.out.symm, (below_box0 _ _).trans ((below_grow _ _ _).mono (by simp))⟩
end Go.Proofs.YtpaecmpiokkdnaaDoor

namespace Go.Proofs.YtpaecmpiokkdnaaDoor

/-- the word whose bit j is q j, of m bits -/
def wordOf (q : Nat → Bool) : Nat → Nat
  | 0 => 0
  | m + 1 => wordOf q m + (if q m = true then 2 ^ m else 0)
theorem wordOf_lt (q : Nat → Bool) : ∀ m, wordOf q m < 2 ^ m
  | 0 => by simp [wordOf]
  | m + 1 => by have := wordOf_lt q m; simp only [wordOf, Nat.pow_succ]; split <;> omega
theorem wordOf_testBit (q : Nat → Bool) : ∀ m j, (wordOf q m).testBit j = (decide (j < m) && q j)
  | 0, j => by simp [wordOf]
  | m + 1, j => by
    have hlt := wordOf_lt q m
    simp only [wordOf]
    by_cases hq : q m = true
    · rw [if_pos hq, Nat.add_comm, show 2 ^ m + wordOf q m = 2 ^ m * 1 + wordOf q m by simp, Nat.testBit_two_pow_mul_add _ hlt]
      by_cases h : j < m
      · rw [if_pos h, wordOf_testBit q m j]; simp [h, show j < m + 1 by omega]
      · rw [if_neg h]
        by_cases e : j = m
        · subst e; simp [hq]
        · have h1 : ¬ j < m + 1 := by omega
          rw [Nat.testBit_lt_two_pow (Nat.one_lt_two_pow (by omega : j - m ≠ 0))]; simp [h1]
    · rw [if_neg hq, Nat.add_zero, wordOf_testBit q m j]
      by_cases e : j = m
      · subst e; simp at hq; simp [hq]
      · by_cases h : j < m
        · simp [h, show j < m + 1 by omega]
        · simp [h, show ¬ j < m + 1 by omega]
/-- words with these bits -/
def pack (p : Nat → Bool) (len : Nat) : List Nat := (List.range len).map fun w => wordOf (fun j => p (64 * w + j)) 64
theorem pack_length (p : Nat → Bool) (len : Nat) : (pack p len).length = len := by simp [pack]
theorem pack_getD (p : Nat → Bool) (len k : Nat) (hk : k < len) : (pack p len).getD k 0 = wordOf (fun j => p (64 * k + j)) 64 := by
  simp [pack, List.getD_eq_getElem?_getD, hk]
theorem pack_lt (p : Nat → Bool) (len : Nat) : ∀ x ∈ pack p len, x < 18446744073709551616 := by
  intro x hx
  simp only [pack, List.mem_map] at hx
  obtain ⟨_, _, rfl⟩ := hx
  exact wordOf_lt _ 64
theorem pack_bat (p : Nat → Bool) (len i : Nat) (hi : i < 64 * len) : bat (pack p len) i = p i := by
  unfold bat
  rw [pack_getD _ _ _ (by omega), wordOf_testBit]
  simp only [show i % 64 < 64 by omega, decide_true, Bool.true_and]
  congr 1; omega
theorem bat_out (ws : List Nat) (i : Nat) (h : 64 * ws.length ≤ i) : bat ws i = false := by
  unfold bat
  rw [List.getD_eq_getElem?_getD, List.getElem?_eq_none (by omega)]; simp
theorem pack_unique {L : List Nat} {p : Nat → Bool} {len : Nat} (hl : L.length = len) (hw : ∀ x ∈ L, x < 18446744073709551616) (h : ∀ i, i < 64 * len → bat L i = p i) : L = pack p len := by
  apply List.ext_getElem?
  intro k
  by_cases hk : k < len
  · have e1 : L[k]? = some (L.getD k 0) := by rw [List.getD_eq_getElem?_getD, List.getElem?_eq_getElem (by omega)]; rfl
    have e2 : (pack p len)[k]? = some ((pack p len).getD k 0) := by rw [List.getD_eq_getElem?_getD, List.getElem?_eq_getElem (by rw [pack_length]; exact hk)]; rfl
    rw [e1, e2]
    congr 1
    apply Nat.eq_of_testBit_eq
    intro j
    by_cases hj : j < 64
    · have a1 := bat_at L k j hj
      have a2 := bat_at (pack p len) k j hj
      rw [← a1, ← a2, h _ (by omega), pack_bat _ _ _ (by omega)]
    · have hb : (64 : Nat) ≤ j := by omega
      have t : ∀ x, x < 18446744073709551616 → Nat.testBit x j = false := fun x hx => Nat.testBit_lt_two_pow (Nat.lt_of_lt_of_le hx (by have := Nat.pow_le_pow_right (n := 2) (by decide) hb; simpa using this))
      rw [t _ (getD_lt hw (by decide) k), t _ (getD_lt (pack_lt p len) (by decide) k)]
  · rw [List.getElem?_eq_none (by omega), List.getElem?_eq_none (by rw [pack_length]; omega)]
theorem pack_congr {p q : Nat → Bool} {len : Nat} (h : ∀ i, i < 64 * len → p i = q i) : pack p len = pack q len :=
  pack_unique (pack_length _ _) (pack_lt _ _) fun i hi => by rw [pack_bat _ _ _ hi, h i hi]

theorem bat_set {L : List Nat} {k v : Nat} (hk : k < L.length) (i : Nat) : bat (L.set k v) i = if i / 64 = k then v.testBit (i % 64) else bat L i := by
  unfold bat
  rw [List.getD_eq_getElem?_getD, List.getElem?_set]
  by_cases h : k = i / 64
  · rw [if_pos h, if_pos (by omega), if_pos h.symm]; rfl
  · rw [if_neg h, if_neg (fun e => h e.symm), List.getD_eq_getElem?_getD]
theorem set_lt {L : List Nat} {k v B : Nat} (hw : ∀ x ∈ L, x < B) (hv : v < B) : ∀ x ∈ L.set k v, x < B := by
  intro x hx
  rcases List.mem_or_eq_of_mem_set hx with h | h
  · exact hw x h
  · rw [h]; exact hv

/-- what fill makes of the bits -/
def filled (p : Nat → Bool) (f t : Nat) (on : Bool) (i : Nat) : Bool := if f ≤ i ∧ i < t then on else p i
/-- one round of fill -/
theorem fill_step (p : Nat → Bool) {f t k len : Nat} (on : Bool) (h : 64 * k < t) (hf : f / 64 ≤ k) (hk : k < len) :
    (pack (filled p f (min t (64 * k)) on) len).set k (if on = true then (pack (filled p f (min t (64 * k)) on) len).getD k 0 ||| mk (f - 64 * k) (min 64 (t - 64 * k)) else (pack (filled p f (min t (64 * k)) on) len).getD k 0 &&& (18446744073709551615 - mk (f - 64 * k) (min 64 (t - 64 * k)))) =
    pack (filled p f (min t (64 * (k + 1))) on) len := by
  have hx := getD_lt (pack_lt (filled p f (min t (64 * k)) on) len) (by decide) k
  refine pack_unique (by rw [List.length_set, pack_length]) (set_lt (pack_lt _ _) ?_) fun i hi => ?_
  · split
    · exact Nat.or_lt_two_pow (n := 64) hx (mk_lt _ _)
    · exact Nat.lt_of_le_of_lt Nat.and_le_left hx
  · rw [bat_set (by rw [pack_length]; exact hk)]
    by_cases hik : i / 64 = k
    · rw [if_pos hik]
      have e := bat_at (pack (filled p f (min t (64 * k)) on) len) k (i % 64) (by omega)
      rw [show 64 * k + i % 64 = i by omega, pack_bat _ _ _ hi] at e
      have e' : filled p f (min t (64 * k)) on i = p i := by unfold filled; rw [if_neg (by omega)]
      rw [e'] at e
      cases on
      · rw [if_neg (by simp), Nat.testBit_and, ← e, flip_testBit (mk_lt _ _), mk_testBit (by omega) (by omega)]
        unfold filled
        by_cases c : f ≤ i ∧ i < min t (64 * (k + 1))
        · rw [if_pos c]; simp [show f - 64 * k ≤ i % 64 by omega, show i % 64 < min 64 (t - 64 * k) by omega]
        · rw [if_neg c]
          by_cases c1 : f - 64 * k ≤ i % 64
          · have : ¬ i % 64 < min 64 (t - 64 * k) := by omega
            simp [this, show i % 64 < 64 by omega]
          · simp [c1, show i % 64 < 64 by omega]
      · rw [if_pos rfl, Nat.testBit_or, ← e, mk_testBit (by omega) (by omega)]
        unfold filled
        by_cases c : f ≤ i ∧ i < min t (64 * (k + 1))
        · rw [if_pos c]; simp [show f - 64 * k ≤ i % 64 by omega, show i % 64 < min 64 (t - 64 * k) by omega]
        · rw [if_neg c]
          by_cases c1 : f - 64 * k ≤ i % 64
          · have : ¬ i % 64 < min 64 (t - 64 * k) := by omega
            simp [this]
          · simp [c1]
    · rw [if_neg hik, pack_bat _ _ _ hi]
      unfold filled
      by_cases c : f ≤ i ∧ i < min t (64 * k)
      · rw [if_pos c, if_pos (by omega)]
      · rw [if_neg c, if_neg (by omega)]
theorem fill_start (ws : List Nat) (hw : ∀ x ∈ ws, x < 18446744073709551616) (f t : Nat) (on : Bool) : ws = pack (filled (bat ws) f (min t (64 * (f / 64))) on) ws.length :=
  pack_unique rfl hw fun i _ => by unfold filled; rw [if_neg (by omega)]
theorem fill_end (p : Nat → Bool) {f t k : Nat} (on : Bool) (len : Nat) (h : t ≤ 64 * k) : pack (filled p f (min t (64 * k)) on) len = pack (filled p f t on) len := by rw [show min t (64 * k) = t by omega]
end Go.Proofs.YtpaecmpiokkdnaaDoor

namespace Go.Proofs.YtpaecmpiokkdnaaDoor
open Go.RowKit Go.Sort Go.Joins
attribute [local go_sem] cell_grow frozen_grow size_grow

theorem gb_drewN {a w : World} {row : Option Nat} (h : a.grownBy w row) (n : Nat) : a.grownBy (w.drewN n) row := ⟨h.os, h.tape, h.output, h.size, h.block⟩
theorem gb_setCell {a w : World} {g : Nat} (h : a.grownBy w (some g)) (o : Nat) (u : Value) : a.grownBy (w.setCell ⟨g, o, none⟩ u) (some g) :=
  ⟨h.os, h.tape, h.output, by simpa [World.setCell] using h.size, fun i hi hne => (Below.heap_setCell w ⟨g, o, none⟩ u i (fun e => hne (by rw [e]))).trans (h.block i hi hne)⟩
theorem own_drewN {w : World} {base : Nat} {e : TypeId} {size : Nat} {v : Value} {n : Nat} {xs : List Value} (h : w.ownsRow base e size v n xs) (k : Nat) : (w.drewN k).ownsRow base e size v n xs := h
/-- words as values -/
def u64s (ws : List Nat) : List Value := ws.map fun (x : Nat) => Value.int .u64 (x : Int)
theorem u64s_length (ws : List Nat) : (u64s ws).length = ws.length := by simp [u64s]
theorem u64s_get (ws : List Nat) (k : Nat) (h : k < ws.length) : (u64s ws)[k]? = some (.int .u64 (ws.getD k 0 : Nat)) := by
  simp [u64s, h]
theorem u64s_set (ws : List Nat) (k v : Nat) : (u64s ws).set k (.int .u64 (v : Int)) = u64s (ws.set k v) := by simp [u64s, List.map_set]

theorem or_val (x m : Nat) (hx : x < 18446744073709551616) (hm : m < 18446744073709551616) : bits BinOp.or IntKind.u64 (x : Int) (m : Int) = ((x ||| m : Nat) : Int) := u64_or_nat x m hx hm
theorem andNot_val (x m : Nat) (hx : x < 18446744073709551616) (hm : m < 18446744073709551616) : bits BinOp.andNot IntKind.u64 (x : Int) (m : Int) = ((x &&& (18446744073709551615 - m) : Nat) : Int) := u64_andNot_nat x m hx hm

/-- the store of a round -/
theorem fill_store {w wr : World} {base g cap len k m2 x v : Nat} {e : TypeId} {P L : List Nat} {op : BinOp} {m : Nat} (ho : wr.ownsRow base e 1 (.slice (some ⟨g, 0, none⟩) len cap) len (u64s P)) (hg : w.grownBy wr (some g))
    (hv : bits op IntKind.u64 (x : Int) (m : Int) = (v : Int)) (hS : P.set k v = L) :
    ((wr.drewN m2).setCell ⟨g, k, none⟩ (.int .u64 (bits op IntKind.u64 (x : Int) (m : Int)))).ownsRow base e 1 (.slice (some ⟨g, 0, none⟩) len cap) len (u64s L) ∧
    w.grownBy ((wr.drewN m2).setCell ⟨g, k, none⟩ (.int .u64 (bits op IntKind.u64 (x : Int) (m : Int)))) (some g) := by
  have h := (own_drewN ho m2).stored k (.int .u64 (v : Int))
  rw [hv]
  rw [u64s_set, hS] at h
  exact ⟨h.1, gb_setCell (gb_drewN hg _) _ _⟩

set_option maxHeartbeats 800000 in
theorem bfill_ok (base : Nat) (v : Value) (len f t : Nat) (on : Bool) (ws : List Nat) (w : World) (ho : w.ownsRow base 144 1 v len (u64s ws)) (hw : ∀ x ∈ ws, x < 18446744073709551616) (hl : ws.length = len) (ht : t ≤ 64 * len) (hlen : len ≤ 64) (hf : f ≤ t) :
    Calls Tryd.prog 77 #[v, .int .i64 f, .int .i64 t, .bool on] w fun e w' => e = .returned (.tuple #[]) ∧ w'.ownsRow base 144 1 v len (u64s (pack (filled (bat ws) f t on) len)) ∧ w.grownBy w' v.ownBlock := by
  go_enter Tryd.func77, Tryd.ntmps77
  go_wp2
  go_loopw [8] (fun i wr => ∃ k : Nat, f / 64 ≤ k ∧ k ≤ (t + 63) / 64 ∧ i = .int .i64 k ∧ wr.ownsRow base 144 1 v len (u64s (pack (filled (bat ws) f (min t (64 * k)) on) len)) ∧ w.grownBy wr v.ownBlock) (fun i _ => len - (intOf i).toNat)
  case atStart => exact ⟨f / 64, Nat.le_refl _, by omega, by go_num, by have := fill_start ws hw f t on; rw [hl] at this; rw [← this]; exact ho, World.grownBy.refl _ _⟩
  case round =>
    obtain ⟨k, hk1, hk2, rfl, hown, hg⟩ := hrel
    by_cases hlt : 64 * k < t
    · obtain ⟨g, cap, rfl⟩ := ownsRow_form hown (by omega)
      have S := Lib.hid (fill_step (bat ws) on hlt hk1 (by omega : k < len))
      have hcell := hown.cellAt k (by omega)
      rw [u64s_get _ _ (by rw [pack_length]; omega)] at hcell
      have hfz := hown.frozenAt k
      have hx := getD_lt (pack_lt (filled (bat ws) f (min t (64 * k)) on) len) (by decide) k
      generalize hPd : pack (filled (bat ws) f (min t (64 * k)) on) len = P at *
      obtain ⟨X, hX⟩ : ∃ X, X = P.getD k 0 := ⟨_, rfl⟩
      rw [← hX] at hcell hx S
      have hm := mk_lt (f - 64 * k) (min 64 (t - 64 * k))
      have e1 := lo_nat f k
      have e2 := hi_nat t k
      have HO := Lib.hid hown
      have HG := Lib.hid hg
      have hk0 : (0 : Int) ≤ (k : Int) := by omega
      have hk3 : (k : Int) < (len : Int) := by omega
      clear hown hg hX hPd ho hw hl
      cases on
      all_goals
        go_wp2_with (go_at_call 82; refine (mask_int _ _ _ (by omega) (by omega) (by omega) (by omega)).mono ?_; rintro e w1 ⟨rfl, m2, rfl⟩)
        go_roundw
        case rel =>
          have Q := fill_store (k := k) (m2 := m2) HO.out HG.out (by first | exact or_val X _ hx hm | exact andNot_val X _ hx hm) (S.out)
          exact ⟨k + 1, by omega, by omega, by go_num, Q.1, Q.2⟩
        case measure => simp [intOf]; omega
    · have HO := Lib.hid hown
      have HG := Lib.hid hg
      clear hown hg ho
      go_wp2
      go_end0
      have e := fill_end (bat ws) (f := f) (t := t) (k := k) on len (by omega)
      exact ⟨rfl, by rw [← e]; exact HO.out, HG.out⟩
end Go.Proofs.YtpaecmpiokkdnaaDoor

namespace Go.Proofs.YtpaecmpiokkdnaaDoor
open Go.RowKit Go.Sort Go.Joins
attribute [local go_sem] cell_grow frozen_grow size_grow

theorem info_u64 : (Tryd.prog.info? 144).map (fun i => (i.zero, i.size, i.bytes)) = some (some (.int .u64 0), 1, 8) := by kernel_rfl

theorem SlK.news {w : World} {ad : Addr} {len : Nat} {ws : List Nat} (h : SlK .u64 w (some ad) len ws) : ∀ j u, (u64s ws)[j]? = some u → w.cell? (ad.add j) = some u := by
  intro j u hu
  have hj : j < ws.length := by
    have := (List.getElem?_eq_some_iff.1 hu).1
    simpa [u64s] using this
  rcases h.cells with h0 | ⟨b, off, ha, hc⟩
  · rw [h.length, h0] at hj; omega
  · obtain rfl := Option.some.inj ha
    rw [Addr.add_lit, hc j (by rw [← h.length]; exact hj), ← hu, u64s_get _ _ hj]
theorem u64s_one (ws : List Nat) : ∀ u ∈ u64s ws, u.oneCell' = true := by
  intro u hu
  obtain ⟨_, _, rfl⟩ := List.mem_map.1 hu
  rfl

set_option maxHeartbeats 800000 in
theorem clone_ok (a : Option Addr) (len cap : Nat) (ws : List Nat) (w : World) (hs : SlK .u64 w a len ws) (hlen : len ≤ 100000) :
    Calls Tryd.prog 86 #[.slice a len cap] w fun e w' => ∃ v, e = .returned v ∧ w'.ownsRow w.heap.size 144 1 v len (u64s ws) ∧ Below w.heap.size w w' := by
  obtain ⟨i0, hi, hz0, hz1, hz2⟩ := info_parts info_u64
  cases a with
  | none =>
    have h0 : len = 0 := by rcases hs.cells with h | ⟨_, _, h, _⟩; exact h; cases h
    subst h0
    have hq := fun (w : World) => Lib.run_eql_slice_nil (P := Tryd.prog) w 95 144 none 0 cap 0 0 Tryd.underlying95
    go_enter Tryd.func86, Tryd.ntmps86
    go_wp2
    go_ret
    have hws : ws = [] := List.eq_nil_of_length_eq_zero hs.length
    subst hws
    exact ⟨_, rfl, World.ownsRow_nil _ _ _ _, Below.refl _ _⟩
  | some ad =>
    have hq := fun (w : World) => Lib.run_eql_slice_nil (P := Tryd.prog) w 95 144 (some ad) len cap 0 0 Tryd.underlying95
    go_enter Tryd.func86, Tryd.ntmps86
    go_wp2_with (at_builtin; refine wpList_append_own _ rfl (.tmp 5) (.tmp 6) 95 rfl w.heap.size 144 i0 (.int .u64 0) 1 8 Tryd.underlying95 hi hz0 hz1 hz2 rfl (by decide) _ _ _ rfl (World.ownsRow_lit w #[] 0 (Nat.le_refl _) (by decide) rfl) ad len cap (u64s ws) rfl ?c1 (hs.alloc _).news (u64s_one ws) ?c2 ?c3 ?c4 ?_)
    case c1 => rw [u64s_length, hs.length, Nat.mul_one]
    case c2 => unfold maxLen; omega
    case c3 => omega
    case c4 => simp
    intro v' w1 hown hg _
    go_wp2
    go_ret
    exact ⟨v', rfl, by simpa using hown, ((below_box0 _ _).grown hg (by simp) (by intro k hk; simp [Value.ownBlock] at hk; omega))⟩
end Go.Proofs.YtpaecmpiokkdnaaDoor

namespace Go.Proofs.YtpaecmpiokkdnaaDoor
open Go.RowKit Go.Sort Go.Joins
attribute [local go_sem] cell_grow frozen_grow size_grow

theorem SlK.of_own {w : World} {base len : Nat} {e : TypeId} {a : Option Addr} {cap : Nat} {ws : List Nat} (h : w.ownsRow base e 1 (.slice a len cap) len (u64s ws)) : SlK .u64 w a len ws := by
  have hl : ws.length = len := by have := h.1; rw [u64s_length] at this; omega
  refine ⟨hl, ?_⟩
  rcases Nat.eq_zero_or_pos len with h0 | hp
  · exact .inl h0
  · obtain ⟨g, cap', he⟩ := ownsRow_form h hp
    simp only [Value.slice.injEq] at he
    obtain ⟨rfl, _, rfl⟩ := he
    exact .inr ⟨g, 0, rfl, fun j hj => by rw [Nat.zero_add, h.cellAt j (by omega), u64s_get _ _ (by omega)]⟩

theorem zeros_own (w : World) (len : Nat) (h : len ≤ 100000) : (w.alloc (.cells (madeCells #[.int .u64 0] len) 144)).ownsRow w.heap.size 144 1 (.slice (some ⟨w.heap.size, 0, none⟩) len len) len (u64s (pack (fun _ => false) len)) := by
  have h1 := World.ownsRow_lit (base := w.heap.size) (e := 144) (size := 1) w (madeCells #[.int .u64 0] len) len (Nat.le_refl _) (by unfold maxLen; omega) (by simp [madeCells])
  rw [toList_madeCells_one] at h1
  have e : List.replicate len (0 : Nat) = pack (fun _ => false) len := pack_unique (by simp) (by intro x hx; rw [List.eq_of_mem_replicate hx]; decide) fun i hi => by
    unfold bat
    rw [List.getD_eq_getElem?_getD, List.getElem?_replicate]
    split <;> simp
  rw [← e]
  have e2 : u64s (List.replicate len 0) = List.replicate len (.int .u64 0) := by simp [u64s]
  rw [e2]
  exact h1

theorem filled_new (n len : Nat) : pack (filled (bat (pack (fun _ => false) len)) 0 n true) len = pack (fun i => decide (i < n)) len :=
  pack_congr fun i hi => by unfold filled; rw [pack_bat _ _ _ hi]; by_cases h : i < n <;> simp [h]

set_option maxHeartbeats 800000 in
theorem bNew_bad (N : Int) (on : Bool) (w : World) (h : N < 0 ∨ 4096 < N) :
    Calls Tryd.prog 51 #[.int .i64 N, .bool on] w fun e w' => e = .returned (.tuple #[.agg #[.int .i64 0, .slice none 0 0], .int .i64 7]) ∧ Below w.heap.size w w' := by
  by_cases h1 : N < 0
  · go_enter Tryd.func51, Tryd.ntmps51
    go_wp2
    exact bodyPost_ret (v := .tuple #[.agg #[.int .i64 0, .slice none 0 0], .int .i64 7]) (by simp [results, Tryd.results51, go_sem]) rfl ⟨rfl, (Below.refl _ _).alloc (Nat.le_refl _) _⟩
  · have h2 : 4096 < N := by omega
    clear h
    go_enter Tryd.func51, Tryd.ntmps51
    go_wp2
    exact bodyPost_ret (v := .tuple #[.agg #[.int .i64 0, .slice none 0 0], .int .i64 7]) (by simp [results, Tryd.results51, go_sem]) rfl ⟨rfl, (Below.refl _ _).alloc (Nat.le_refl _) _⟩

set_option maxHeartbeats 1600000 in
theorem bNew_ok (n : Nat) (on : Bool) (w : World) (hn : n ≤ 4096) :
    Calls Tryd.prog 51 #[.int .i64 n, .bool on] w fun e w' => ∃ a cap, e = .returned (.tuple #[.agg #[.int .i64 n, .slice a ((n + 63) / 64) cap], .int .i64 0]) ∧
      w'.ownsRow w.heap.size 144 1 (.slice a ((n + 63) / 64) cap) ((n + 63) / 64) (u64s (pack (fun i => on && decide (i < n)) ((n + 63) / 64))) ∧ Below w.heap.size w w' := by
  obtain ⟨len, hlen⟩ : ∃ len, len = (n + 63) / 64 := ⟨_, rfl⟩
  have hmk := fun W => run_make_row' (P := Tryd.prog) 95 144 (.int .u64 0) 8 Tryd.underlying95 info_u64 rfl .i64 .i64 len (by omega) (by omega) W
  have hli : ((len : Nat) : Int) = ((n : Int) + 63) / 64 := by omega
  rw [hli] at hmk
  rw [← hlen]
  have HL := Lib.hid hlen
  clear hlen hli
  have Z0 : ((w.alloc (.cells #[.int .i64 0, .slice none 0 0] 97)).alloc (.cells (madeCells #[.int .u64 0] len) 144)).ownsRow w.heap.size 144 1 (.slice (some ⟨w.heap.size + 1, 0, none⟩) len len) len (u64s (pack (fun _ => false) len)) := by
    have := zeros_own (w.alloc (.cells #[.int .i64 0, .slice none 0 0] 97)) len (by have := HL.out; omega)
    rw [World.size_alloc] at this
    exact ownsRow_le this (by omega)
  have Z1 := Z0.alloc (.cells #[.int .i64 n, .slice (some ⟨w.heap.size + 1, 0, none⟩) len len] 97)
  have HB : Below w.heap.size w (((w.alloc (.cells #[.int .i64 0, .slice none 0 0] 97)).alloc (.cells (madeCells #[.int .u64 0] len) 144)).alloc (.cells #[.int .i64 n, .slice (some ⟨w.heap.size + 1, 0, none⟩) len len] 97)) :=
    below_alloc3 w _ _ _
  have HZ := Lib.hid Z1
  have HH := Lib.hid HB
  clear Z0 Z1 HB
  cases on
  · go_enter Tryd.func51, Tryd.ntmps51
    go_wp2_with (go_at_call 76; refine (words_ok _ _ (by omega) (by omega)).mono ?_; rintro e w1 ⟨rfl, rfl⟩)
    refine bodyPost_ret (v := .tuple #[.agg #[.int .i64 n, .slice (some ⟨w.heap.size + 1, 0, none⟩) len len], .int .i64 0]) (by simp [results, Tryd.results51, go_sem]) rfl ?_
    refine ⟨_, _, rfl, ?_, below_alloc3 w _ _ _⟩
    have Z := zeros_own (w.alloc (.cells #[.int .i64 n, .slice (some ⟨w.heap.size + 1, 0, none⟩) len len] 97)) len (by have := HL.out; omega)
    rw [World.size_alloc] at Z
    have Z2 := (ownsRow_le Z (by omega : w.heap.size ≤ w.heap.size + 1)).alloc (.cells #[.int .i64 n, .slice (some ⟨w.heap.size + 1, 0, none⟩) len len] 97)
    simpa using Z2
  · have F := bfill_ok w.heap.size (.slice (some ⟨w.heap.size + 1, 0, none⟩) len len) len 0 n true (pack (fun _ => false) len) _ HZ.out (pack_lt _ _) (pack_length _ _) (by have := HL.out; omega) (by have := HL.out; omega) (by omega)
    rw [show ((0 : Nat) : Int) = 0 from rfl, filled_new] at F
    have HF := Lib.hid F
    clear F
    go_enter Tryd.func51, Tryd.ntmps51
    go_wp2_with (go_at_call 76; refine (words_ok _ _ (by omega) (by omega)).mono ?_; rintro e w1 ⟨rfl, rfl⟩)
    refine HF.out.mono ?_
    rintro e w1 ⟨rfl, hown, hg⟩
    have c0 : w1.cell? ⟨w.heap.size, 0, none⟩ = some (.int .i64 0) := hg.cell (by simp [go_sem]) (by simp [Value.ownBlock])
    have c1 : w1.cell? ⟨w.heap.size, 1, none⟩ = some (.slice none 0 0) := hg.cell (by simp [go_sem]) (by simp [Value.ownBlock])
    have c2 : w1.cell? ⟨w.heap.size + 1 + 1, 0, none⟩ = some (.int .i64 n) := hg.cell (by simp [go_sem]) (by simp [Value.ownBlock])
    have c3 : w1.cell? ⟨w.heap.size + 1 + 1, 1, none⟩ = some (.slice (some ⟨w.heap.size + 1, 0, none⟩) len len) := hg.cell (by simp [go_sem]) (by simp [Value.ownBlock])
    have f0 : ∀ j, w1.frozen? ⟨w.heap.size, j, none⟩ = false := fun j => by
      rw [World.frozen?_of_block (hg.block w.heap.size (by simp; omega) (by simp [Value.ownBlock]))]; simp [go_sem]
    have HB2 : Below w.heap.size w w1 := HH.out.grown hg (by simp; omega) (by intro k hk; simp [Value.ownBlock] at hk; omega)
    have HO := Lib.hid hown
    have HB3 := Lib.hid HB2
    clear hown hg HB2
    go_wp2
    refine bodyPost_ret (v := .tuple #[.agg #[.int .i64 n, .slice (some ⟨w.heap.size + 1, 0, none⟩) len len], .int .i64 0]) (by simp [results, Tryd.results51, go_sem, c0, c1]) rfl ?_
    exact ⟨_, _, rfl, by simpa using ownsRow_setCell_other (ownsRow_setCell_other HO.out (by simp [Value.ownBlock]) _) (by simp [Value.ownBlock]) _, (HB3.out.setCell (Nat.le_refl _) _).setCell (Nat.le_refl _) _⟩
end Go.Proofs.YtpaecmpiokkdnaaDoor
