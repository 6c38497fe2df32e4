/- Handles: HandlesOnce, plain: what is known of handles. | Handles: HandlesOnce: what lies in memory; the contract of handle. -/
import Derived.Test.YtpaecmpiokkdnaaDoorTypesZ18
import Derived.Test.YtpaecmpiokkdnaaDoorTypesZ16
namespace Go.Proofs.YtpaecmpiokkdnaaDoor
open Go.RowKit Go.Sort Go.Joins

/-- a handle that was given, whether it is alive, its value -/
abbrev Kn := Int × Bool × Int
abbrev sAt (st : List Slt) (x : Nat) : Slt := st.getD x (0, false, undef)
structure KAt (st : List Slt) (t : Kn) (x g : Nat) : Prop where
  h : t.1 = (g : Int) * 65536 + x
  g1 : 1 ≤ g
  x1 : x < st.length
  g2 : g ≤ (sAt st x).1
  al : t.2.1 = decide (g = (sAt st x).1 ∧ (sAt st x).2.1 = true)
  v : t.2.1 = true → (sAt st x).2.2 = .int .i64 t.2.2
structure KI (st : List Slt) (K : List Kn) : Prop where
  n : st.length ≤ 60
  gb : ∀ j, j < st.length → (sAt st j).1 ≤ 65535
  vs : ∀ j, j < st.length → ∃ z : Int, (sAt st j).2.2 = .int .i64 z
  nd : K.Pairwise fun s t => s.1 ≠ t.1
  at_ : ∀ t ∈ K, ∃ x g, KAt st t x g
theorem KAt.slot {st : List Slt} {t : Kn} {x g : Nat} (h : KAt st t x g) (hb : (sAt st x).1 ≤ 65535) (hn : st.length ≤ 60) : slotI t.1 = x ∧ numI t.1 = g := by
  rw [h.h]
  exact hnd_slot h.g1 (Nat.le_trans h.g2 hb) (by have := h.x1; omega)
theorem KAt.alive {st : List Slt} {t : Kn} {x g : Nat} (h : KAt st t x g) (hb : (sAt st x).1 ≤ 65535) (hn : st.length ≤ 60) (ha : t.2.1 = true) : findE st t.1 = 0 ∧ slotI t.1 = x ∧ sAt st x = (g, true, .int .i64 t.2.2) := by
  obtain ⟨e1, e2⟩ := h.slot hb hn
  have hv := h.v ha
  have hal := h.al
  rw [ha] at hal
  have := of_decide_eq_true hal.symm
  obtain ⟨rfl, h2⟩ := this
  refine ⟨(find_yes (q := 0) e1 h.x1 (by rw [e2]; exact Int.lt_irrefl _) (by rw [e2]; exact Int.lt_irrefl _) h2).2.symm, e1, ?_⟩
  rw [← h2, ← hv]
theorem KAt.dead {st : List Slt} {t : Kn} {x g : Nat} (h : KAt st t x g) (hb : (sAt st x).1 ≤ 65535) (hn : st.length ≤ 60) (ha : t.2.1 = false) : findE st t.1 = 160 := by
  obtain ⟨e1, e2⟩ := h.slot hb hn
  have hal := h.al
  rw [ha] at hal
  have hal := of_decide_eq_false hal.symm
  have hg := h.g2
  refine (find_old (q := 0) e1 h.x1 (by rw [e2]; have : g ≤ (st.getD x (0, false, undef)).1 := hg; omega) ?_).2.symm
  rw [e2]
  by_cases h2 : (sAt st x).2.1 = true
  · left
    have : g ≠ (sAt st x).1 := fun e => hal ⟨e, h2⟩
    have h3 : g < (sAt st x).1 := by omega
    have h4 : g < (st.getD x (0, false, undef)).1 := h3
    omega
  · right; simpa using h2
theorem sAt_set {st : List Slt} {i j : Nat} {s : Slt} (hi : i < st.length) : sAt (st.set i s) j = if i = j then s else sAt st j := getD_set hi
/-- a handle that is kept when a slot is changed -/
theorem KAt.keep {st : List Slt} {t : Kn} {x g i : Nat} {s : Slt} (h : KAt st t x g) (hi : i < st.length) (hg : x = i → (sAt st i).1 ≤ s.1) (ha : x = i → t.2.1 = decide (g = s.1 ∧ s.2.1 = true)) (hv : x = i → t.2.1 = true → s.2.2 = .int .i64 t.2.2) : KAt (st.set i s) t x g := by
  refine ⟨h.h, h.g1, by simpa using h.x1, ?_, ?_, ?_⟩
  · rw [sAt_set hi]
    by_cases e : i = x
    · subst e; rw [if_pos rfl]; exact Nat.le_trans h.g2 (hg rfl)
    · rw [if_neg e]; exact h.g2
  · rw [sAt_set hi]
    by_cases e : i = x
    · subst e; rw [if_pos rfl]; exact ha rfl
    · rw [if_neg e]; exact h.al
  · rw [sAt_set hi]
    by_cases e : i = x
    · subst e; rw [if_pos rfl]; exact hv rfl
    · rw [if_neg e]; exact h.v
theorem KAt.inj {st : List Slt} {s t : Kn} {x g y k : Nat} (h : KAt st s x g) (h2 : KAt st t y k) (hn : st.length ≤ 60) (e : s.1 = t.1) : x = y ∧ g = k := by
  have h3 := h.h; have h4 := h2.h; have h5 := h.x1; have h6 := h2.x1
  rw [h3, h4] at e
  omega
theorem KI.bounds {st : List Slt} {i : Nat} {s : Slt} (h : ∀ j, j < st.length → (sAt st j).1 ≤ 65535) (hs : s.1 ≤ 65535) (hi : i < st.length) : ∀ j, j < (st.set i s).length → (sAt (st.set i s) j).1 ≤ 65535 := fun j hj => by
  rw [List.length_set] at hj
  rw [sAt_set hi]
  by_cases e : i = j
  · rw [if_pos e]; exact hs
  · rw [if_neg e]; exact h j hj
theorem KI.vals {st : List Slt} {i : Nat} {s : Slt} (h : ∀ j, j < st.length → ∃ z : Int, (sAt st j).2.2 = .int .i64 z) (hs : ∃ z : Int, s.2.2 = .int .i64 z) (hi : i < st.length) : ∀ j, j < (st.set i s).length → ∃ z : Int, (sAt (st.set i s) j).2.2 = .int .i64 z := fun j hj => by
  rw [List.length_set] at hj
  rw [sAt_set hi]
  by_cases e : i = j
  · rw [if_pos e]; exact hs
  · rw [if_neg e]; exact h j hj
/-- Put: the handle is a new one -/
theorem KI.put {st : List Slt} {K : List Kn} (h : KI st K) {i g : Nat} (hi : i < st.length) (hg : (sAt st i).1 = g) (hg9 : g < 65535) (ha : (sAt st i).2.1 = false) (v : Int) :
    KI (st.set i (g + 1, true, .int .i64 v)) (K ++ [(((g : Int) + 1) * 65536 + i, true, v)]) ∧ ∀ t ∈ K, t.1 ≠ ((g : Int) + 1) * 65536 + i := by
  have hnew : ∀ t ∈ K, t.1 ≠ ((g : Int) + 1) * 65536 + i := fun t ht e => by
    obtain ⟨x, k, hk⟩ := h.at_ t ht
    have h1 := hk.h; have h2 := hk.x1; have h3 := hk.g2; have := h.n
    rw [h1] at e
    have e1 : x = i := by omega
    subst e1
    omega
  refine ⟨⟨by simpa using h.n, KI.bounds h.gb (by dsimp only; omega) hi, KI.vals h.vs ⟨v, rfl⟩ hi, ?_, ?_⟩, hnew⟩
  · rw [List.pairwise_append]
    refine ⟨h.nd, List.pairwise_singleton _ _, fun t ht s hs => ?_⟩
    rw [List.mem_singleton] at hs
    subst hs
    exact hnew t ht
  · intro t ht
    rw [List.mem_append, List.mem_singleton] at ht
    rcases ht with ht | rfl
    · obtain ⟨x, k, hk⟩ := h.at_ t ht
      have hal := hk.al
      have hg2 := hk.g2
      refine ⟨x, k, hk.keep hi (fun _ => by dsimp only; omega) (fun e => ?_) (fun e ht => ?_)⟩
      · subst e
        rw [hal, ha]
        rw [hg] at hg2
        simp; omega
      · subst e
        rw [hal, ha] at ht
        simp at ht
    · refine ⟨i, g + 1, by dsimp only; omega, by omega, by simpa using hi, ?_, ?_, ?_⟩
      · rw [sAt_set hi, if_pos rfl]; exact Nat.le_refl _
      · rw [sAt_set hi, if_pos rfl]; simp
      · rw [sAt_set hi, if_pos rfl]; exact fun _ => rfl
theorem set_mem {K : List Kn} {a : Nat} {u t : Kn} (ht : t ∈ K.set a u) : t = u ∨ ∃ b, b ≠ a ∧ K[b]? = some t := by
  obtain ⟨b, hb⟩ := List.mem_iff_getElem?.1 ht
  rw [List.getElem?_set] at hb
  by_cases e : a = b
  · rw [if_pos e] at hb
    split at hb
    · left; simpa using hb.symm
    · cases hb
  · rw [if_neg e] at hb
    exact .inr ⟨b, fun e' => e e'.symm, hb⟩
theorem pair_ne {K : List Kn} (h : K.Pairwise fun s t => s.1 ≠ t.1) {a b : Nat} {s t : Kn} (ha : K[a]? = some s) (hb : K[b]? = some t) (hab : b ≠ a) : t.1 ≠ s.1 := by
  rw [List.pairwise_iff_getElem] at h
  obtain ⟨la, ea⟩ := List.getElem?_eq_some_iff.1 ha
  obtain ⟨lb, eb⟩ := List.getElem?_eq_some_iff.1 hb
  rcases Nat.lt_or_gt_of_ne hab with h1 | h1
  · have := h b a lb la h1
    rw [ea, eb] at this; exact this
  · have := h a b la lb h1
    rw [ea, eb] at this; exact fun e => this e.symm
theorem pair_set {K : List Kn} (h : K.Pairwise fun s t => s.1 ≠ t.1) {a : Nat} {t u : Kn} (ha : K[a]? = some t) (hu : u.1 = t.1) : (K.set a u).Pairwise fun s t => s.1 ≠ t.1 := by
  rw [List.pairwise_iff_getElem] at h ⊢
  intro i j hi hj hij
  rw [List.length_set] at hi hj
  obtain ⟨la, ea⟩ := List.getElem?_eq_some_iff.1 ha
  have := h i j hi hj hij
  rw [List.getElem_set, List.getElem_set]
  by_cases e1 : a = i
  · subst e1
    rw [if_pos rfl, if_neg (by omega), hu, ← ea]; exact this
  · rw [if_neg e1]
    by_cases e2 : a = j
    · subst e2; rw [if_pos rfl, hu, ← ea]; exact this
    · rw [if_neg e2]; exact this
/-- the slot of one handle is changed (Set, Drop) -/
theorem KI.change {st : List Slt} {K : List Kn} (h : KI st K) {a x g : Nat} {t : Kn} (hat : K[a]? = some t) (hk : KAt st t x g) (hg : (sAt st x).1 = g) (hal : (sAt st x).2.1 = true) (b : Bool) (v z : Int) (hv : b = true → z = v) :
    KI (st.set x (g, b, .int .i64 z)) (K.set a (t.1, b, v)) := by
  have hx := hk.x1
  have hgb := h.gb x hx
  refine ⟨by simpa using h.n, KI.bounds h.gb (by dsimp only; omega) hx, KI.vals h.vs ⟨z, rfl⟩ hx, pair_set h.nd hat rfl, ?_⟩
  intro s hs
  rcases set_mem hs with rfl | ⟨c, hc, hcs⟩
  · refine ⟨x, g, hk.h, hk.g1, by simpa using hx, ?_, ?_, ?_⟩
    · rw [sAt_set hx, if_pos rfl]; exact Nat.le_refl _
    · rw [sAt_set hx, if_pos rfl]; simp
    · rw [sAt_set hx, if_pos rfl]; exact fun hb => by rw [← hv hb]
  · obtain ⟨y, k, hy⟩ := h.at_ s (List.mem_iff_getElem?.2 ⟨c, hcs⟩)
    have hne := pair_ne h.nd hat hcs hc
    have hyk : ¬ (y = x ∧ k = g) := fun e => hne (by rw [hy.h, hk.h, e.1, e.2])
    have h2 := hy.g2
    have h3 := hy.al
    refine ⟨y, k, hy.keep hx (fun _ => by dsimp only; omega) (fun e => ?_) (fun e ht => ?_)⟩
    · subst e
      rw [h3, hg]
      have : k ≠ g := fun e => hyk ⟨rfl, e⟩
      simp [this]
    · subst e
      rw [h3, hg] at ht
      exact absurd ⟨rfl, (of_decide_eq_true ht).1⟩ hyk
/-- at the beginning: those that are alive -/
def knL (st : List Slt) (l : List Nat) : List Kn := l.map fun i => (hndI st i, true, match (sAt st i).2.2 with | .int .i64 z => z | _ => 0)
theorem KI.start {st : List Slt} (hn : st.length ≤ 60) (hg : ∀ j, j < st.length → (sAt st j).1 ≤ 65535 ∧ ((sAt st j).2.1 = true → 1 ≤ (sAt st j).1)) (hv : ∀ j, j < st.length → ∃ z : Int, (sAt st j).2.2 = .int .i64 z) : KI st (knL st (alvL st st.length)) := by
  refine ⟨hn, fun j hj => (hg j hj).1, hv, ?_, ?_⟩
  · unfold knL
    rw [List.pairwise_map]
    have h1 : (alvL st st.length).Pairwise (· < ·) := by unfold alvL; exact List.Pairwise.filter _ List.pairwise_lt_range
    refine List.Pairwise.imp_of_mem ?_ h1
    intro a b ha hb hlt e
    have l1 := alvL_lt ha
    have l2 := alvL_lt hb
    dsimp only [hndI] at e
    omega
  · intro t ht
    unfold knL at ht
    obtain ⟨i, hi, rfl⟩ := List.mem_map.1 ht
    have l1 := alvL_lt hi
    have h2 : (sAt st i).2.1 = true := by have := (List.mem_filter.1 hi).2; simpa using this
    obtain ⟨z, hz⟩ := hv i l1
    refine ⟨i, (sAt st i).1, rfl, (hg i l1).2 h2, l1, Nat.le_refl _, (decide_eq_true ⟨rfl, h2⟩).symm, fun _ => ?_⟩
    rw [hz]
/-- where a handle is known last -/
def AtR (K : List Kn) (h : Int) (n : Nat) (at_ : Int) : Prop := (at_ = -1 ∧ ∀ k, k < n → (K.getD k (0, false, 0)).1 ≠ h) ∨ ∃ a : Nat, at_ = a ∧ a < n ∧ (K.getD a (0, false, 0)).1 = h
theorem AtR.zero (K : List Kn) (h : Int) : AtR K h 0 (-1) := .inl ⟨rfl, fun k hk => by omega⟩
theorem AtR.yes {K : List Kn} {h : Int} {n : Nat} (e : (K.getD n (0, false, 0)).1 = h) : AtR K h (n + 1) (n : Int) := .inr ⟨n, rfl, by omega, e⟩
theorem AtR.no {K : List Kn} {h : Int} {n : Nat} {a : Int} (H : AtR K h n a) (e : (K.getD n (0, false, 0)).1 ≠ h) : AtR K h (n + 1) a := by
  rcases H with ⟨rfl, H⟩ | ⟨b, rfl, hb, e'⟩
  · refine .inl ⟨rfl, fun k hk => ?_⟩
    by_cases e2 : k = n
    · subst e2; exact e
    · exact H k (by omega)
  · exact .inr ⟨b, rfl, by omega, e'⟩
/-- which handle a call names -/
def hndC (H : Int) (o : Nat) (K : List Kn) : Int := if o = 0 ∨ K.length = 0 then H else (K.getD (K.length - 1 - (o - 1) % K.length) (0, false, 0)).1
end Go.Proofs.YtpaecmpiokkdnaaDoor

namespace Go.Proofs.YtpaecmpiokkdnaaDoor
open Go.RowKit Go.Sort Go.Joins Go.Shelf
attribute [local go_sem] cell_grow frozen_grow size_grow

def kH (K : List Kn) : List Value := K.map fun t => .int .i64 t.1
def kA (K : List Kn) : List Value := K.map fun t => .bool t.2.1
def kV (K : List Kn) : List Value := K.map fun t => .int .i64 t.2.2
/-- the three rows -/
structure RR (Z : Nat) (W : World) (K : List Kn) (r0 r1 r2 : Value) : Prop where
  o0 : W.ownsRow Z 2 1 r0 K.length (kH K)
  o1 : W.ownsRow Z 4 1 r1 K.length (kA K)
  o2 : W.ownsRow Z 3 1 r2 K.length (kV K)
  n01 : ∀ g, r0.ownBlock = some g → r1.ownBlock ≠ some g
  n02 : ∀ g, r0.ownBlock = some g → r2.ownBlock ≠ some g
  n12 : ∀ g, r1.ownBlock = some g → r2.ownBlock ≠ some g
theorem RR.start (Z : Nat) (W : World) : RR Z W [] (.slice none 0 0) (.slice none 0 0) (.slice none 0 0) :=
  ⟨World.ownsRow_nil _ _ _ _, World.ownsRow_nil _ _ _ _, World.ownsRow_nil _ _ _ _, fun g h => by simp [Value.ownBlock] at h, fun g h => by simp [Value.ownBlock] at h, fun g h => by simp [Value.ownBlock] at h⟩
theorem RR.below {Z : Nat} {W W' : World} {K : List Kn} {r0 r1 r2 : Value} (h : RR Z W K r0 r1 r2) (hb : Below W.heap.size W W') : RR Z W' K r0 r1 r2 :=
  ⟨own_below h.o0 hb, own_below h.o1 hb, own_below h.o2 hb, h.n01, h.n02, h.n12⟩
theorem own_fr {p q : Nat} {W W' : World} {base n : Nat} {e t1 t2 : TypeId} {v : Value} {xs : List Value} {c1 c2 : Array Value} (h : W.ownsRow base e 1 v n xs) (f : Fr p q W W') (hp : W.heap[p]? = some (.cells c1 t1 (0, 0))) (hq : W.heap[q]? = some (.cells c2 t2 (0, 0))) (h1 : e ≠ t1) (h2 : e ≠ t2) : W'.ownsRow base e 1 v n xs :=
  own_same h fun g hg => f.block g (h.lt g hg).2 (fun e' => own_ne h hp h1 (by rw [hg, e'])) (fun e' => own_ne h hq h2 (by rw [hg, e']))
theorem RR.fr {B Z p q : Nat} {W W' : World} {st : List Slt} {K : List Kn} {r0 r1 r2 : Value} (h : RR Z W K r0 r1 r2) (ht : Int.TT W B p q st) (f : Fr p q W W') : RR Z W' K r0 r1 r2 := by
  obtain ⟨ra, rcap, h1, _⟩ := Tb.tbl ht
  exact ⟨own_fr h.o0 f h1 ht.slots (by decide) (by decide), own_fr h.o1 f h1 ht.slots (by decide) (by decide), own_fr h.o2 f h1 ht.slots (by decide) (by decide), h.n01, h.n02, h.n12⟩
/-- all is kept but newer blocks of ints and bools -/
structure KB (Z : Nat) (W W' : World) : Prop where
  os : W'.os = W.os
  tape : W'.tape = W.tape
  output : W'.output = W.output
  size : W.heap.size ≤ W'.heap.size
  old : ∀ k, k < W.heap.size → k < Z → W'.heap[k]? = W.heap[k]?
  other : ∀ (k : Nat) (cs : Array Value) (t : TypeId), W.heap[k]? = some (.cells cs t (0, 0)) → t ≠ 2 → t ≠ 4 → t ≠ 3 → W'.heap[k]? = some (.cells cs t (0, 0))
theorem KB.of_below {Z : Nat} {W W' : World} (h : Below W.heap.size W W') : KB Z W W' := ⟨h.os, h.tape, h.output, h.size, fun k hk _ => h.block k hk, fun k _ _ hk _ _ _ => (h.block k (blk_lt hk)).trans hk⟩
theorem KB.trans {Z : Nat} {a b c : World} (h : KB Z a b) (k : KB Z b c) : KB Z a c :=
  ⟨k.os.trans h.os, k.tape.trans h.tape, k.output.trans h.output, Nat.le_trans h.size k.size, fun i hi h1 => (k.old i (Nat.lt_of_lt_of_le hi h.size) h1).trans (h.old i hi h1), fun i cs t hi h1 h2 h3 => k.other i cs t (h.other i cs t hi h1 h2 h3) h1 h2 h3⟩
theorem KB.tt {B Z p q : Nat} {W W' : World} {st : List Slt} (h : KB Z W W') (ht : Int.TT W B p q st) : Int.TT W' B p q st := by
  obtain ⟨ra, rcap, h1, h2⟩ := Tb.tbl ht
  refine ⟨ht.hp, ht.hq, ht.ne, ht.n1, ht.n2, ⟨ra, rcap, h.other _ _ _ h1 (by decide) (by decide) (by decide), h2.1, ?_⟩, h.other _ _ _ ht.slots (by decide) (by decide) (by decide), ht.rb⟩
  rcases h2.2 with h3 | ⟨g, cap, cur, e1, e2, e3, e4⟩
  · exact .inl h3
  · exact .inr ⟨g, cap, cur, e1, e2, h.other _ _ _ e3 (by decide) (by decide) (by decide), e4⟩
theorem KB.tab {Z : Nat} {W W' : World} (h : KB Z W W') (ht : Tab W) (hz : 0 < Z) : Tab W' := fun i hi => by
  rw [World.cell?_of_block (w := W) (h.old _ ht.lt hz)]
  exact ht i hi
theorem KB.below {Z b : Nat} {w W W' : World} (h : KB Z W W') (hb : Below b w W) (hz : b ≤ Z) (hz2 : b ≤ W.heap.size) : Below b w W' :=
  hb.trans ⟨h.os, h.tape, h.output, h.size, fun k hk => h.old k (by omega) (by omega)⟩
theorem KB.set {Z g j n cap : Nat} {W : World} {e : TypeId} {xs : List Value} (h : W.ownsRow Z e 1 (.slice (some ⟨g, 0, none⟩) n cap) n xs) (he : e = 2 ∨ e = 4 ∨ e = 3) (v : Value) : KB Z W (W.setCell ⟨g, j, none⟩ v) := by
  refine ⟨rfl, rfl, rfl, by simp [World.setCell], fun k _ hk => Below.heap_setCell _ _ _ _ (by have := (h.lt g rfl).1; dsimp only; omega), fun k cs t hk h1 h2 h3 => ?_⟩
  refine (Below.heap_setCell _ _ _ _ ?_).trans hk
  intro e'
  dsimp only at e'
  subst e'
  exact own_ne h hk (by rcases he with rfl | rfl | rfl <;> exact fun e' => by first | exact h1 e'.symm | exact h2 e'.symm | exact h3 e'.symm) rfl
section
variable {Z n : Nat} {W wx : World} {x0 x1 x2 : Value} {t0 t1 t2 : TypeId} {D0 D1 D2 : ChDyn} {K : List Kn} {r0 r1 r2 : Value} {y0 y1 y2 : List Value}
theorem KB.chains (h : RR Z W K r0 r1 r2) (HC : Chains W [(ChSpec.mk Z 2 t0 r0 n (kH K) x0 y0, D0), (ChSpec.mk Z 4 t1 r1 n (kA K) x1 y1, D1), (ChSpec.mk Z 3 t2 r2 n (kV K) x2 y2, D2)] wx) : KB Z W wx := by
  refine ⟨HC.os, HC.tape, HC.output, HC.size, fun k hk hz => HC.block k hk ?_, fun k cs t hk h1 h2 h3 => (HC.block k (blk_lt hk) ?_).trans hk⟩
  · intro c hc
    simp only [List.mem_cons, List.not_mem_nil, or_false] at hc
    rcases hc with rfl | rfl | rfl
    · exact fun e => by have := (h.o0.lt k e).1; omega
    · exact fun e => by have := (h.o1.lt k e).1; omega
    · exact fun e => by have := (h.o2.lt k e).1; omega
  · intro c hc
    simp only [List.mem_cons, List.not_mem_nil, or_false] at hc
    rcases hc with rfl | rfl | rfl
    · exact own_ne h.o0 hk (fun e => h1 e.symm)
    · exact own_ne h.o1 hk (fun e => h2 e.symm)
    · exact own_ne h.o2 hk (fun e => h3 e.symm)
theorem RR.next {u v : Int} {b : Bool} {g0 g1 g2 k0 k1 k2 : Nat} (hn : K.length = n)
    (HC : Chains W [(ChSpec.mk Z 2 t0 r0 n (kH K) (.int .i64 u) [.int .i64 u], D0), (ChSpec.mk Z 4 t1 r1 n (kA K) (.bool b) [.bool b], D1), (ChSpec.mk Z 3 t2 r2 n (kV K) (.int .i64 v) [.int .i64 v], D2)] wx)
    (own0 : wx.ownsRow Z 2 1 (.slice (some ⟨g0, 0, none⟩) (n + 1) k0) (n + 1) (kH K ++ [.int .i64 u])) (own1 : wx.ownsRow Z 4 1 (.slice (some ⟨g1, 0, none⟩) (n + 1) k1) (n + 1) (kA K ++ [.bool b])) (own2 : wx.ownsRow Z 3 1 (.slice (some ⟨g2, 0, none⟩) (n + 1) k2) (n + 1) (kV K ++ [.int .i64 v]))
    (hu0 : g0 ∈ D0.u) (hu1 : g1 ∈ D1.u) (hu2 : g2 ∈ D2.u) :
    RR Z wx (K ++ [(u, b, v)]) (.slice (some ⟨g0, 0, none⟩) (n + 1) k0) (.slice (some ⟨g1, 0, none⟩) (n + 1) k1) (.slice (some ⟨g2, 0, none⟩) (n + 1) k2) := by
  have hap := HC.apart
  simp only [List.pairwise_cons, List.mem_cons, List.not_mem_nil, or_false, forall_eq_or_imp, forall_eq] at hap
  have hl : (K ++ [(u, b, v)]).length = n + 1 := by simp [hn]
  have e0 : kH (K ++ [(u, b, v)]) = kH K ++ [.int .i64 u] := by simp [kH]
  have e1 : kA (K ++ [(u, b, v)]) = kA K ++ [.bool b] := by simp [kA]
  have e2 : kV (K ++ [(u, b, v)]) = kV K ++ [.int .i64 v] := by simp [kV]
  refine ⟨by rw [hl, e0]; exact own0, by rw [hl, e1]; exact own1, by rw [hl, e2]; exact own2, ?_, ?_, ?_⟩
  · intro k h1 h2
    simp only [Value.ownBlock, Option.some.injEq] at h1 h2
    exact hap.1.1 g0 hu0 (by rw [h1, ← h2]; exact hu1)
  · intro k h1 h2
    simp only [Value.ownBlock, Option.some.injEq] at h1 h2
    exact hap.1.2 g0 hu0 (by rw [h1, ← h2]; exact hu2)
  · intro k h1 h2
    simp only [Value.ownBlock, Option.some.injEq] at h1 h2
    exact hap.2.1 g1 hu1 (by rw [h1, ← h2]; exact hu2)
end
theorem kH_get {K : List Kn} {k : Nat} (h : k < K.length) : (kH K)[k]? = some (.int .i64 (K.getD k (0, false, 0)).1) := by simp [kH, List.getElem?_map, List.getElem?_eq_getElem h, List.getD_eq_getElem?_getD]
theorem kA_get {K : List Kn} {k : Nat} (h : k < K.length) : (kA K)[k]? = some (.bool (K.getD k (0, false, 0)).2.1) := by simp [kA, List.getElem?_map, List.getElem?_eq_getElem h, List.getD_eq_getElem?_getD]
theorem kV_get {K : List Kn} {k : Nat} (h : k < K.length) : (kV K)[k]? = some (.int .i64 (K.getD k (0, false, 0)).2.2) := by simp [kV, List.getElem?_map, List.getElem?_eq_getElem h, List.getD_eq_getElem?_getD]
theorem kn_eta {K : List Kn} {k : Nat} (h : k < K.length) : K[k]? = some (K.getD k (0, false, 0)) := by simp [List.getElem?_eq_getElem h, List.getD_eq_getElem?_getD]
theorem map_set_same {α β : Type} (f : α → β) {K : List α} {a : Nat} {t u : α} (ha : K[a]? = some t) (h : f u = f t) : (K.set a u).map f = K.map f := by
  rw [List.map_set, h]
  exact set_same (by rw [List.getElem?_map, ha]; rfl)
theorem RR.setV {Z a g n k : Nat} {W : World} {K : List Kn} {r0 r1 : Value} (h : RR Z W K r0 r1 (.slice (some ⟨g, 0, none⟩) n k)) (hn : K.length = n) (ha : a < n) (v : Int) :
    RR Z (W.setCell ⟨g, a, none⟩ (.int .i64 v)) (K.set a ((K.getD a (0, false, 0)).1, (K.getD a (0, false, 0)).2.1, v)) r0 r1 (.slice (some ⟨g, 0, none⟩) n k) := by
  have hk := kn_eta (K := K) (k := a) (by omega)
  subst hn
  refine ⟨?_, ?_, ?_, h.n01, h.n02, h.n12⟩
  · rw [List.length_set, show kH (K.set a ((K.getD a (0, false, 0)).1, (K.getD a (0, false, 0)).2.1, v)) = kH K from map_set_same (fun t : Kn => Value.int .i64 t.1) hk rfl]
    exact ownsRow_setCell_other h.o0 (a := ⟨g, a, none⟩) (fun e => h.n02 g e rfl) _
  · rw [List.length_set, show kA (K.set a ((K.getD a (0, false, 0)).1, (K.getD a (0, false, 0)).2.1, v)) = kA K from map_set_same (fun t : Kn => Value.bool t.2.1) hk rfl]
    exact ownsRow_setCell_other h.o1 (a := ⟨g, a, none⟩) (fun e => h.n12 g e rfl) _
  · rw [List.length_set, show kV (K.set a ((K.getD a (0, false, 0)).1, (K.getD a (0, false, 0)).2.1, v)) = (kV K).set a (.int .i64 v) by unfold kV; rw [List.map_set]]
    exact own_setAt h.o2 ha _
theorem RR.setA {Z a g n k : Nat} {W : World} {K : List Kn} {r0 r2 : Value} (h : RR Z W K r0 (.slice (some ⟨g, 0, none⟩) n k) r2) (hn : K.length = n) (ha : a < n) (v : Bool) :
    RR Z (W.setCell ⟨g, a, none⟩ (.bool v)) (K.set a ((K.getD a (0, false, 0)).1, v, (K.getD a (0, false, 0)).2.2)) r0 (.slice (some ⟨g, 0, none⟩) n k) r2 := by
  have hk := kn_eta (K := K) (k := a) (by omega)
  subst hn
  refine ⟨?_, ?_, ?_, h.n01, h.n02, h.n12⟩
  · rw [List.length_set, show kH (K.set a ((K.getD a (0, false, 0)).1, v, (K.getD a (0, false, 0)).2.2)) = kH K from map_set_same (fun t : Kn => Value.int .i64 t.1) hk rfl]
    exact ownsRow_setCell_other h.o0 (a := ⟨g, a, none⟩) (fun e => h.n01 g e rfl) _
  · rw [List.length_set, show kA (K.set a ((K.getD a (0, false, 0)).1, v, (K.getD a (0, false, 0)).2.2)) = (kA K).set a (.bool v) by unfold kA; rw [List.map_set]]
    exact own_setAt h.o1 ha _
  · rw [List.length_set, show kV (K.set a ((K.getD a (0, false, 0)).1, v, (K.getD a (0, false, 0)).2.2)) = kV K from map_set_same (fun t : Kn => Value.int .i64 t.2.2) hk rfl]
    exact ownsRow_setCell_other h.o2 (a := ⟨g, a, none⟩) (fun e => h.n12 g rfl e) _

theorem own_free {W : World} {base n : Nat} {e : TypeId} {g cap : Nat} {xs : List Value} (h : W.ownsRow base e 1 (.slice (some ⟨g, 0, none⟩) n cap) n xs) (j : Nat) : W.frozen? ⟨g, j, none⟩ = false := by
  rcases h.2 with ⟨h1, _⟩ | ⟨g', cap', cur, e1, _, e3, _⟩
  · cases h1
  · simp only [Value.slice.injEq, Option.some.injEq, Addr.mk.injEq, and_true, true_and] at e1
    obtain ⟨rfl, rfl⟩ := e1
    exact unfrozen_of_block e3 j
theorem getD_mem {K : List Kn} {j : Nat} (h : j < K.length) : K.getD j (0, false, 0) ∈ K := List.mem_iff_getElem?.2 ⟨j, kn_eta h⟩
theorem own_form' {W : World} {base n : Nat} {e : TypeId} {r : Value} {xs : List Value} (h : W.ownsRow base e 1 r n xs) (hn : 0 < n) : ∃ g cap, r = .slice (some ⟨g, 0, none⟩) n cap := ownsRow_form h hn
/-- calls in memory -/
abbrev Cll := Nat × Int × Nat × Int
abbrev clV (c : Cll) : Value := .agg #[.int .u8 (c.1 : Int), .int .i64 c.2.1, .int .u8 (c.2.2.1 : Int), .int .i64 c.2.2.2]
def SlC (w : World) (a : Option Addr) (n : Nat) (C : Nat → Cll) : Prop := n = 0 ∨ ∃ b o, a = some ⟨b, o, none⟩ ∧ ∀ j, j < n → w.cell? ⟨b, o + j * 4, none⟩ = some (.int .u8 ((C j).1 : Int)) ∧ w.cell? ⟨b, o + j * 4 + 1, none⟩ = some (.int .i64 (C j).2.1) ∧ w.cell? ⟨b, o + j * 4 + 2, none⟩ = some (.int .u8 ((C j).2.2.1 : Int)) ∧ w.cell? ⟨b, o + j * 4 + 3, none⟩ = some (.int .i64 (C j).2.2.2)
theorem SlC.below {b : Nat} {w w' : World} {a : Option Addr} {n : Nat} {C : Nat → Cll} (h : SlC w a n C) (hb : Below b w w') (hs : b = w.heap.size) : SlC w' a n C := by
  subst hs
  rcases h with h | ⟨b, o, ha, hc⟩
  · exact .inl h
  · refine .inr ⟨b, o, ha, fun j hj => ?_⟩
    obtain ⟨h0, h1, h2, h3⟩ := hc j hj
    have hl := World.block_lt_of_cell? _ _ h0
    dsimp only at hl
    exact ⟨(hb.cell (p := ⟨b, o + j * 4, none⟩) hl).trans h0, (hb.cell (p := ⟨b, o + j * 4 + 1, none⟩) hl).trans h1, (hb.cell (p := ⟨b, o + j * 4 + 2, none⟩) hl).trans h2, (hb.cell (p := ⟨b, o + j * 4 + 3, none⟩) hl).trans h3⟩

theorem hndC_zero {H : Int} {o : Nat} {K : List Kn} (h : o = 0 ∨ K.length = 0) : H = hndC H o K := by unfold hndC; rw [if_pos h]
theorem hndC_pos {H : Int} {o n : Nat} {K : List Kn} (h : ¬ (o = 0 ∨ K.length = 0)) (hn : K.length = n) : hndC H o K = (K.getD (n - 1 - (o - 1) % n) (0, false, 0)).1 := by unfold hndC; rw [if_neg h, hn]
set_option maxRecDepth 100000 in
set_option maxHeartbeats 1600000 in
theorem handle_ok {K : List Kn} {a : Option Addr} {n c : Nat} (x : Cll) (w : World) (hK : SlF w a n (fun j => .int .i64 (K.getD j (0, false, 0)).1)) (hn : K.length = n) (hn2 : n ≤ 1000000) (ho : x.2.2.1 ≤ 255) :
    Calls Tryd.prog 26 #[clV x, .slice a n c] w fun e w' => e = .returned (.int .i64 (hndC x.2.1 x.2.2.1 K)) ∧ Below w.heap.size w w' := by
  obtain ⟨x0, x1, o, x3⟩ := x
  dsimp only at ho ⊢
  have HB := Lib.hid (below_box0 w (.cells #[.int .u8 (x0 : Int), .int .i64 x1, .int .u8 (o : Int), .int .i64 x3] 55))
  by_cases h0 : o = 0
  · have R := Lib.hid (hndC_zero (H := x1) (K := K) (.inl h0))
    have q1 : ((o : Int) == 0) = true := by simp; omega
    have o2 : (o : Int) ≤ 255 := by omega
    clear hK hn h0
    go_enter Tryd.func26, Tryd.ntmps26
    go_wp2
    go_ret
    exact ⟨ret_i64 R.out, HB.out⟩
  · have q1 : ((o : Int) == 0) = false := by simp; omega
    by_cases h1 : n = 0
    · have R := Lib.hid (hndC_zero (H := x1) (o := o) (K := K) (.inr (by omega)))
      have q2 : ((n : Int) == 0) = true := by simp; omega
      clear hK hn h0 h1
      go_enter Tryd.func26, Tryd.ntmps26
      go_wp2
      go_ret
      exact ⟨ret_i64 R.out, HB.out⟩
    · have q2 : ((n : Int) == 0) = false := by simp; omega
      obtain ⟨m, hm⟩ : ∃ m, n - 1 - (o - 1) % n = m := ⟨_, rfl⟩
      have hml := Nat.mod_lt (o - 1) (show 0 < n by omega)
      have hmn : m < n := by omega
      have R := Lib.hid (hndC_pos (H := x1) (o := o) (K := K) (by omega) hn)
      rw [hm] at R
      obtain ⟨hb, ho', rfl, ch⟩ := (hK.below HB.out).at_ hmn
      obtain ⟨z, hz⟩ : ∃ z, (K.getD m (0, false, 0)).1 = z := ⟨_, rfl⟩
      rw [hz] at ch R
      have i1 : (o : Int) - 1 = ((o - 1 : Nat) : Int) := by omega
      have i2 : (((o - 1 : Nat) : Int)).tmod (n : Int) = (((o - 1) % n : Nat) : Int) := rfl
      have i3 : (n : Int) - 1 - (((o - 1) % n : Nat) : Int) = (m : Int) := by omega
      have m0 : (0 : Int) ≤ (m : Int) := by omega
      have m1 : (m : Int) < (n : Int) := by omega
      have o1 : (1 : Int) ≤ (o : Int) := by omega
      have o2 : (o : Int) ≤ 255 := by omega
      have n1 : (1 : Int) ≤ (n : Int) := by omega
      have n2 : (n : Int) ≤ 1000000 := by omega
      have i4 : ((o : Int) - 1) % (n : Int) = (((o - 1) % n : Nat) : Int) := by rw [i1]; rfl
      have k0 : (((o - 1) % n : Nat) : Int) < (n : Int) := by omega
      have k1 : (0 : Int) ≤ (((o - 1) % n : Nat) : Int) := by omega
      obtain ⟨r, hr⟩ : ∃ r : Nat, (o - 1) % n = r := ⟨_, rfl⟩
      rw [hr] at i3 i4 k0 k1 i2
      have qn : decide ((n : Int) = 0) = false := by simp; omega
      clear hK hn h0 h1 hz hm hml hr i1 i2
      go_enter Tryd.func26, Tryd.ntmps26
      go_wp2
      go_ret
      exact ⟨ret_i64 R.out.symm, HB.out⟩
end Go.Proofs.YtpaecmpiokkdnaaDoor
