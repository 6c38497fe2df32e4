/- Handles: a slot that is dropped; one whose value is set. | Handles: a state in memory; what Check answers; Check of the reference. | Handles: tables whose parts agree with each other. -/
import Derived.Test.YtpaecmpiokkdnaaDoorTypesZ4
namespace Go.Proofs.YtpaecmpiokkdnaaDoor
open Go.RowKit Go.Sort Go.Joins

theorem set_same {α : Type} {l : List α} {k : Nat} {v : α} (h : l[k]? = some v) : l.set k v = l := by
  apply List.ext_getElem?
  intro j
  rw [List.getElem?_set]
  by_cases e : k = j
  · subst e
    rw [if_pos rfl, if_pos (List.getElem?_eq_some_iff.1 h).1, h]
  · rw [if_neg e]
theorem slotCells_drop (st : List Slt) (i g : Nat) (hi : i < st.length) (hg : (st.getD i (0, false, undef)).1 = g) (z : Value) :
    slotCells (st.set i (g, false, z)) = ((slotCells st).set (i * 3 + 2) z).set (i * 3 + 1) (.bool false) := by
  rw [slotCells_set st i hi]
  dsimp only
  have e := slotCells_get st i 0 hi (by decide)
  rw [Nat.add_zero, sc, hg] at e
  rw [set_same (e.trans rfl), List.set_comm _ _ (by omega)]
theorem slotCells_val (st : List Slt) (i : Nat) (hi : i < st.length) (v : Value) :
    slotCells (st.set i ((st.getD i (0, false, undef)).1, (st.getD i (0, false, undef)).2.1, v)) = (slotCells st).set (i * 3 + 2) v := by
  rw [slotCells_set st i hi]
  dsimp only
  have e := slotCells_get st i 0 hi (by decide)
  rw [Nat.add_zero, sc] at e
  have e2 := slotCells_get st i 1 hi (by decide)
  rw [sc] at e2
  rw [set_same (e.trans rfl), set_same (e2.trans rfl)]

section
variable {TBL SLOT : TypeId} {w w' : World} {B p q : Nat} {st : List Slt} {m : Nat} {r : Nat → Bool}
theorem Tb.dropped (h : Tb TBL SLOT w B p q st m r) (hs : 144 ≠ SLOT) (ht : 144 ≠ TBL) {i g : Nat} (hi : i < st.length) (hg : (st.getD i (0, false, undef)).1 = g) (z : Value) (m' : Int) (k : Nat) (hm : m' = k) :
    Tb TBL SLOT (((w.setCell ⟨q, i * 3 + 2, none⟩ z).setCell ⟨q, i * 3 + 1, none⟩ (.bool false)).setCell ⟨p, 3, none⟩ (.int .i64 m')) B p q (st.set i (g, false, z)) k r := by
  subst hm
  obtain ⟨ra, rcap, h1, h2⟩ := h.tbl
  have o1 := own_ne h2 h.slots hs
  have o2 := own_ne h2 h1 ht
  have hq0 := h.slots
  have hne := h.ne
  refine ⟨h.hp, h.hq, h.ne, by simpa using h.n1, by simpa using h.n2, ⟨ra, rcap, ?_, ?_⟩, ?_, by simpa using h.rb⟩
  · have e : (((w.setCell ⟨q, i * 3 + 2, none⟩ z).setCell ⟨q, i * 3 + 1, none⟩ (.bool false))).heap[p]? = some (.cells #[.slice (some ⟨q, 0, none⟩) st.length st.length, .int .i64 (st.length : Int), .slice ra ((st.length + 63) / 64) rcap, .int .i64 (m : Int)] TBL (0, 0)) := by
      rw [Below.heap_setCell _ _ _ _ hne, Below.heap_setCell _ _ _ _ hne]; exact h1
    rw [setCell_block e]; simp
  · rw [List.length_set]
    exact ownsRow_setCell_other (ownsRow_setCell_other (ownsRow_setCell_other h2 (a := ⟨q, i * 3 + 2, none⟩) o1 _) (a := ⟨q, i * 3 + 1, none⟩) o1 _) (a := ⟨p, 3, none⟩) o2 _
  · rw [Below.heap_setCell _ _ _ _ hne.symm, setCell_block (setCell_block hq0 _) _, slotCells_drop st i g hi hg]; simp
theorem Tb.valued (h : Tb TBL SLOT w B p q st m r) (hs : 144 ≠ SLOT) {i : Nat} (hi : i < st.length) (v : Value) :
    Tb TBL SLOT (w.setCell ⟨q, i * 3 + 2, none⟩ v) B p q (st.set i ((st.getD i (0, false, undef)).1, (st.getD i (0, false, undef)).2.1, v)) m r := by
  obtain ⟨ra, rcap, h1, h2⟩ := h.tbl
  have o1 := own_ne h2 h.slots hs
  have hne := h.ne
  refine ⟨h.hp, h.hq, h.ne, by simpa using h.n1, by simpa using h.n2, ⟨ra, rcap, ?_, ?_⟩, ?_, by simpa using h.rb⟩
  · rw [List.length_set, Below.heap_setCell _ _ _ _ hne]; exact h1
  · rw [List.length_set]
    exact ownsRow_setCell_other h2 (a := ⟨q, i * 3 + 2, none⟩) o1 _
  · rw [setCell_block h.slots _, slotCells_val st i hi v]; simp
end
end Go.Proofs.YtpaecmpiokkdnaaDoor

namespace Go.Proofs.YtpaecmpiokkdnaaDoor
open Go.RowKit Go.Sort Go.Joins
attribute [local go_sem] cell_grow frozen_grow size_grow

/-- a slice whose cells are known -/
def SlF (w : World) (a : Option Addr) (n : Nat) (f : Nat → Value) : Prop := n = 0 ∨ ∃ b o, a = some ⟨b, o, none⟩ ∧ ∀ j, j < n → w.cell? ⟨b, o + j, none⟩ = some (f j)
abbrev zI (G : Nat → Int) : Nat → Value := fun j => .int .i64 (G j)
abbrev zB (A : Nat → Bool) : Nat → Value := fun j => .bool (A j)
theorem SlF.below {w w' : World} {a : Option Addr} {n : Nat} {f : Nat → Value} (h : SlF w a n f) (hb : Below w.heap.size w w') : SlF w' a n f := by
  rcases h with h | ⟨b, o, ha, hc⟩
  · exact .inl h
  · exact .inr ⟨b, o, ha, fun j hj => (hb.cell (p := ⟨b, o + j, none⟩) (World.block_lt_of_cell? _ _ (hc j hj))).trans (hc j hj)⟩
theorem SlF.alloc {w : World} {a : Option Addr} {n : Nat} {f : Nat → Value} (h : SlF w a n f) (o : Obj) : SlF (w.alloc o) a n f := h.below (below_box0 w o)
theorem SlF.at_ {w : World} {a : Option Addr} {n : Nat} {f : Nat → Value} (h : SlF w a n f) {j : Nat} (hj : j < n) : ∃ b o, a = some ⟨b, o, none⟩ ∧ w.cell? ⟨b, o + j, none⟩ = some (f j) := by
  obtain ⟨b, o, ha, hc⟩ := h.resolve_left (by omega)
  exact ⟨b, o, ha, hc j hj⟩

theorem SlF.of_own {w : World} {base n : Nat} {e : TypeId} {a : Option Addr} {cap : Nat} {xs : List Value} {f : Nat → Value} (h : w.ownsRow base e 1 (.slice a n cap) n xs) (hf : ∀ j, j < n → xs[j]? = some (f j)) : SlF w a n f := by
  rcases Nat.eq_zero_or_pos n with h0 | hp
  · exact .inl h0
  · obtain ⟨g, cap', he⟩ := ownsRow_form h hp
    simp only [Value.slice.injEq] at he
    obtain ⟨rfl, _, rfl⟩ := he
    refine .inr ⟨g, 0, rfl, fun j hj => ?_⟩
    have hl := h.1
    have := hf j hj
    rw [Nat.zero_add, h.cellAt j (by omega), this]
theorem SlF.congr {w : World} {a : Option Addr} {n : Nat} {f g : Nat → Value} (h : SlF w a n f) (hf : ∀ j, j < n → f j = g j) : SlF w a n g := by
  rcases h with h | ⟨b, o, ha, hc⟩
  · exact .inl h
  · exact .inr ⟨b, o, ha, fun j hj => by rw [hc j hj, hf j hj]⟩
/-- the parts of a list of slots -/
def gF (st : List Slt) : Nat → Int := fun j => ((st.getD j (0, false, undef)).1 : Int)
def aF (st : List Slt) : Nat → Bool := fun j => (st.getD j (0, false, undef)).2.1
def vF (st : List Slt) : Nat → Value := fun j => (st.getD j (0, false, undef)).2.2
/-- three slices that read as a list of slots -/
structure RA (w : World) (st : List Slt) (ga aa va : Option Addr) : Prop where
  g : SlF w ga st.length (zI (gF st))
  a : SlF w aa st.length (zB (aF st))
  v : SlF w va st.length (vF st)
theorem RA.below {w w' : World} {st : List Slt} {ga aa va : Option Addr} (h : RA w st ga aa va) (hb : Below w.heap.size w w') : RA w' st ga aa va := ⟨h.g.below hb, h.a.below hb, h.v.below hb⟩
/-- a state that reads as a list of slots -/
def RS (w : World) (x : Value) (st : List Slt) : Prop := ∃ ga gc aa ac va vc, x = .agg #[.slice ga st.length gc, .slice aa st.length ac, .slice va st.length vc] ∧ RA w st ga aa va
theorem RS.below {w w' : World} {x : Value} {st : List Slt} (h : RS w x st) (hb : Below w.heap.size w w') : RS w' x st := by
  obtain ⟨ga, gc, aa, ac, va, vc, e, h⟩ := h
  exact ⟨ga, gc, aa, ac, va, vc, e, h.below hb⟩

/-- is slot i badly formed? -/
def badS (G : Nat → Int) (A : Nat → Bool) (i : Nat) : Bool := decide (G i < 0) || decide (65535 < G i) || (decide (G i = 0) && A i)
def hcE (n na nv : Nat) (G : Nat → Int) (A : Nat → Bool) : Int := if n < 1 ∨ 1024 < n then 7 else if na ≠ n ∨ nv ≠ n then 6 else if nxt (badS G A) 0 n < n then 6 else 0
def hcI (n na nv : Nat) (G : Nat → Int) (A : Nat → Bool) : Int := if n < 1 ∨ 1024 < n then 0 else if na ≠ n ∨ nv ≠ n then 0 else if nxt (badS G A) 0 n < n then ((nxt (badS G A) 0 n : Nat) : Int) else 0
theorem hc_range {n na nv : Nat} {G : Nat → Int} {A : Nat → Bool} (h : n < 1 ∨ 1024 < n) : 0 = hcI n na nv G A ∧ 7 = hcE n na nv G A := by
  unfold hcI hcE; rw [if_pos h, if_pos h]; exact ⟨rfl, rfl⟩
theorem hc_form {n na nv : Nat} {G : Nat → Int} {A : Nat → Bool} (h : ¬ (n < 1 ∨ 1024 < n)) (h2 : na ≠ n ∨ nv ≠ n) : 0 = hcI n na nv G A ∧ 6 = hcE n na nv G A := by
  unfold hcI hcE; rw [if_neg h, if_neg h, if_pos h2, if_pos h2]; exact ⟨rfl, rfl⟩
theorem hc_bad {n i : Nat} {G : Nat → Int} {A : Nat → Bool} (h : ¬ (n < 1 ∨ 1024 < n)) (hi : i < n) (hb : badS G A i = true) (hp : ∀ j, j < i → badS G A j = false) : (i : Int) = hcI n n n G A ∧ 6 = hcE n n n G A := by
  have e : nxt (badS G A) 0 n = i := nxt_eq (Nat.zero_le _) (Nat.zero_le _) (by omega) (fun j _ hj => hp j hj) (fun _ => hb)
  unfold hcI hcE; rw [if_neg h, if_neg h, if_neg (by simp : ¬ (n ≠ n ∨ n ≠ n)), if_neg (by simp : ¬ (n ≠ n ∨ n ≠ n)), e, if_pos hi, if_pos hi]; exact ⟨rfl, rfl⟩
theorem hc_good {n : Nat} {G : Nat → Int} {A : Nat → Bool} (h : ¬ (n < 1 ∨ 1024 < n)) (hp : ∀ j, j < n → badS G A j = false) : 0 = hcI n n n G A ∧ 0 = hcE n n n G A := by
  have e : nxt (badS G A) 0 n = n := nxt_eq (Nat.zero_le _) (Nat.zero_le _) (Nat.le_refl _) (fun j _ hj => hp j hj) (fun h => by omega)
  unfold hcI hcE; rw [if_neg h, if_neg h, if_neg (by simp : ¬ (n ≠ n ∨ n ≠ n)), if_neg (by simp : ¬ (n ≠ n ∨ n ≠ n)), e, if_neg (Nat.lt_irrefl n), if_neg (Nat.lt_irrefl n)]; exact ⟨rfl, rfl⟩
theorem hcE_zero {n na nv : Nat} {G : Nat → Int} {A : Nat → Bool} (h : hcE n na nv G A = 0) : 1 ≤ n ∧ n ≤ 1024 ∧ na = n ∧ nv = n ∧ ∀ j, j < n → badS G A j = false := by
  unfold hcE at h
  by_cases h1 : n < 1 ∨ 1024 < n
  · rw [if_pos h1] at h; cases h
  · rw [if_neg h1] at h
    by_cases h2 : na ≠ n ∨ nv ≠ n
    · rw [if_pos h2] at h; cases h
    · rw [if_neg h2] at h
      by_cases h3 : nxt (badS G A) 0 n < n
      · rw [if_pos h3] at h; cases h
      · obtain ⟨_, s2, s3, _⟩ := nxt_spec (p := badS G A) (a := 0) (n := n) (Nat.zero_le _)
        exact ⟨by omega, by omega, by omega, by omega, fun j hj => s3 j (Nat.zero_le _) (by omega)⟩
theorem badS_ok {G : Nat → Int} {A : Nat → Bool} {i : Nat} (h : badS G A i = false) : 0 ≤ G i ∧ G i ≤ 65535 ∧ (A i = true → G i ≠ 0) := by
  unfold badS at h
  simp only [Bool.or_eq_false_iff, decide_eq_false_iff_not, Bool.and_eq_false_iff] at h
  refine ⟨by omega, by omega, fun ha e => ?_⟩
  rcases h.2 with h2 | h2
  · exact h2 e
  · rw [ha] at h2; cases h2

section
variable {n na nv : Nat} {ga aa va : Option Addr} {gc ac vc : Nat} {G : Nat → Int} {A : Nat → Bool}
set_option maxRecDepth 100000 in
set_option maxHeartbeats 3200000 in
theorem rcheck_ok (w : World) (hG : SlF w ga n (zI G)) (hA : SlF w aa na (zB A)) :
    Calls Tryd.prog 17 #[.agg #[.slice ga n gc, .slice aa na ac, .slice va nv vc]] w fun e w' => e = .returned (.tuple #[.int .i64 (hcI n na nv G A), .int .i64 (hcE n na nv G A)]) ∧ Below w.heap.size w w' := by
  have hb0 := below_box0 w (.cells #[.slice ga n gc, .slice aa na ac, .slice va nv vc] 35)
  have HB := Lib.hid hb0
  by_cases h1 : n < 1 ∨ 1024 < n
  · have R := Lib.hid (hc_range (na := na) (nv := nv) (G := G) (A := A) h1)
    clear hb0
    by_cases h2 : n < 1
    all_goals
      have h3 : ¬ n < 1 → 1024 < n := fun h => by omega
      first
        | (have d1 : decide ((n : Int) < 1) = true := by rw [decide_eq_true_eq]; omega
           clear h1 h2 h3)
        | (have d1 : decide ((n : Int) < 1) = false := by rw [decide_eq_false_iff_not]; omega
           have d2 : decide (1024 < n) = true := by rw [decide_eq_true_eq]; exact h3 h2
           have d3 : decide ((1024 : Int) < (n : Int)) = true := by rw [decide_eq_true_eq]; have := h3 h2; omega
           clear h1 h2 h3)
      go_enter Tryd.func17, Tryd.ntmps17
      go_wp2
      go_ret2
      exact ⟨ret_two R.out.1 R.out.2, HB.out⟩
  · have d1 : decide ((n : Int) < 1) = false := by rw [decide_eq_false_iff_not]; omega
    have d2 : decide (1024 < n) = false := by rw [decide_eq_false_iff_not]; omega
    have d3 : decide ((1024 : Int) < (n : Int)) = false := by rw [decide_eq_false_iff_not]; omega
    have hn : n ≤ 1024 := by omega
    by_cases h2 : na ≠ n ∨ nv ≠ n
    · have R := Lib.hid (hc_form (G := G) (A := A) h1 h2)
      clear hb0
      by_cases h3 : na = n
      all_goals
        have h4 : na = n → nv ≠ n := fun h => by omega
        first
          | (have d4 : ((na : Int) != (n : Int)) = false := by rw [bne_eq_false_iff_eq]; omega
             have d5 : ((nv : Int) != (n : Int)) = true := by rw [bne_iff_ne]; have := h4 h3; omega
             clear h1 h2 h3 h4)
          | (have d4 : ((na : Int) != (n : Int)) = true := by rw [bne_iff_ne]; omega
             clear h1 h2 h3 h4)
        go_enter Tryd.func17, Tryd.ntmps17
        go_wp2
        go_ret2
        exact ⟨ret_two R.out.1 R.out.2, HB.out⟩
    · obtain rfl : na = n := by omega
      obtain rfl : nv = na := by omega
      have HN := Lib.hid h1
      have HG := Lib.hid (hG.below hb0)
      have HA := Lib.hid (hA.below hb0)
      clear hb0 h1 h2 hG hA
      go_enter Tryd.func17, Tryd.ntmps17
      go_wp2
      go_loop [5] (fun x => ∃ i : Nat, i ≤ nv ∧ x = .int .i64 i ∧ Hid (∀ j, j < i → badS G A j = false)) (fun x => nv - (intOf x).toNat)
      case atStart => exact ⟨0, Nat.zero_le _, rfl, Lib.hid (fun j h => by omega)⟩
      case round =>
        obtain ⟨i, hi, rfl, HP⟩ := hrel
        by_cases hlt : i < nv
        · obtain ⟨gb, go, rfl, cg⟩ := HG.out.at_ hlt
          obtain ⟨ab, ao, rfl, ca⟩ := HA.out.at_ hlt
          have hli : (i : Int) < (nv : Int) := by omega
          have hl0 : (0 : Int) ≤ (i : Int) := by omega
          have hlb : decide (i < nv) = true := by simpa using hlt
          obtain ⟨g, hg⟩ : ∃ g, G i = g := ⟨_, rfl⟩
          obtain ⟨al, hal⟩ : ∃ al, A i = al := ⟨_, rfl⟩
          have HBad : Hid (badS G A i = (decide (g < 0) || decide (65535 < g) || (decide (g = 0) && al))) := Lib.hid (by unfold badS; rw [hg, hal])
          dsimp only [zI, zB] at cg ca
          rw [hg] at cg
          rw [hal] at ca
          clear hg hal
          by_cases g1 : g < 0
          · have d4 : decide (g < 0) = true := by simpa using g1
            have R := Lib.hid (hc_bad HN.out hlt (by rw [HBad.out, d4]; rfl) HP.out)
            clear g1
            go_wp2
            go_ret2
            exact ⟨ret_two R.out.1 R.out.2, HB.out⟩
          · have d4 : decide (g < 0) = false := by simpa using g1
            by_cases g2 : 65535 < g
            · have d5 : decide (65535 < g) = true := by simpa using g2
              have R := Lib.hid (hc_bad HN.out hlt (by rw [HBad.out, d4, d5]; rfl) HP.out)
              clear g1 g2
              go_wp2
              go_ret2
              exact ⟨ret_two R.out.1 R.out.2, HB.out⟩
            · have d5 : decide (65535 < g) = false := by simpa using g2
              cases al with
              | true =>
                by_cases g3 : g = 0
                · have d6 : (g == 0) = true := by simpa using g3
                  have R := Lib.hid (hc_bad HN.out hlt (by rw [HBad.out, d4, d5, decide_eq_true g3]; rfl) HP.out)
                  clear g1 g2 g3
                  go_wp2
                  go_ret2
                  exact ⟨ret_two R.out.1 R.out.2, HB.out⟩
                · have d6 : (g == 0) = false := by simpa using g3
                  have R := Lib.hid (show badS G A i = false by rw [HBad.out, d4, d5, decide_eq_false g3]; rfl)
                  clear g1 g2 g3
                  go_wp2
                  go_round
                  case rel => exact ⟨i + 1, by omega, by go_num, Lib.hid (fun j h => by
                    by_cases hj : j = i
                    · rw [hj]; exact R.out
                    · exact HP.out j (by omega))⟩
                  case measure => simp [intOf]; omega
              | false =>
                have R := Lib.hid (show badS G A i = false by rw [HBad.out, d4, d5]; simp)
                clear g1 g2
                go_wp2
                go_round
                case rel => exact ⟨i + 1, by omega, by go_num, Lib.hid (fun j h => by
                  by_cases hj : j = i
                  · rw [hj]; exact R.out
                  · exact HP.out j (by omega))⟩
                case measure => simp [intOf]; omega
        · have hlb : decide (i < nv) = false := by simpa using hlt
          have R := Lib.hid (hc_good HN.out (fun j h => HP.out j (by omega)))
          go_wp2
          go_ret2
          exact ⟨ret_two R.out.1 R.out.2, HB.out⟩
end
end Go.Proofs.YtpaecmpiokkdnaaDoor

namespace Go.Proofs.YtpaecmpiokkdnaaDoor
open Go.RowKit Go.Sort Go.Joins

def alv (s : Slt) : Bool := s.2.1
def rdyF (st : List Slt) : Nat → Bool := fun j => decide (j < st.length) && rdy (st.getD j (0, false, undef))
/-- a table: how many are alive, and which slots can give a handle, follow from the slots -/
def Tg (TBL SLOT : TypeId) (w : World) (B p q : Nat) (st : List Slt) : Prop := Tb TBL SLOT w B p q st (st.countP alv) (rdyF st)
theorem rdyF_set {st : List Slt} {i : Nat} (s : Slt) (hi : i < st.length) : filled (rdyF st) i (i + 1) (rdy s) = rdyF (st.set i s) := by
  funext j
  unfold filled rdyF
  rw [List.length_set]
  by_cases hj : i ≤ j ∧ j < i + 1
  · obtain rfl : j = i := by omega
    rw [if_pos hj]
    simp [hi]
  · rw [if_neg hj, List.getD_eq_getElem?_getD, List.getD_eq_getElem?_getD, List.getElem?_set_ne (by omega)]
theorem countP_set' (p : Slt → Bool) (d : Slt) : ∀ (st : List Slt) (i : Nat) (s : Slt), i < st.length → (st.set i s).countP p + (if p (st.getD i d) then 1 else 0) = st.countP p + (if p s then 1 else 0)
  | [], i, _, h => by simp at h
  | x :: l, 0, s, _ => by simp only [List.set_cons_zero, List.countP_cons, List.getD_cons_zero]; omega
  | x :: l, i + 1, s, h => by
    have := countP_set' p d l i s (by simpa using h)
    simp only [List.set_cons_succ, List.countP_cons, List.getD_cons_succ]
    omega
theorem Tg.n1 {TBL SLOT : TypeId} {w : World} {B p q : Nat} {st : List Slt} (h : Tg TBL SLOT w B p q st) : 1 ≤ st.length := Tb.n1 h
theorem Tg.n2 {TBL SLOT : TypeId} {w : World} {B p q : Nat} {st : List Slt} (h : Tg TBL SLOT w B p q st) : st.length ≤ 1024 := Tb.n2 h
theorem Tg.count_le {TBL SLOT : TypeId} {w : World} {B p q : Nat} {st : List Slt} (h : Tg TBL SLOT w B p q st) : st.countP alv ≤ 1024 := Nat.le_trans (List.countP_le_length) (Tb.n2 h)
theorem Tg.below {TBL SLOT : TypeId} {w w' : World} {B p q : Nat} {st : List Slt} (h : Tg TBL SLOT w B p q st) (hb : Below w.heap.size w w') : Tg TBL SLOT w' B p q st := Tb.below h hb
theorem Tg.of {TBL SLOT : TypeId} {w : World} {B p q : Nat} {st : List Slt} {m : Nat} {r : Nat → Bool} (h : Tb TBL SLOT w B p q st m r) (hm : m = st.countP alv) (hr : r = rdyF st) : Tg TBL SLOT w B p q st := by
  subst hm hr; exact h
theorem Tg.size {TBL SLOT : TypeId} {w : World} {B p q : Nat} {st : List Slt} (h : Tg TBL SLOT w B p q st) : B ≤ w.heap.size := by
  have h1 := Tb.c1 h
  have := World.block_lt_of_cell? _ _ h1
  have := Tb.hp h
  dsimp only at *; omega

theorem Tg.base {TBL SLOT : TypeId} {w : World} {B B' p q : Nat} {st : List Slt} (h : Tg TBL SLOT w B p q st) (hB : B' ≤ B) : Tg TBL SLOT w B' p q st := by
  obtain ⟨ra, rcap, h1, h2⟩ := Tb.tbl h
  exact ⟨Nat.le_trans hB (Tb.hp h), Nat.le_trans hB (Tb.hq h), Tb.ne h, Tb.n1 h, Tb.n2 h, ⟨ra, rcap, h1, ownsRow_le h2 hB⟩, Tb.slots h, Tb.rb h⟩

/-- the slots of a state, laid up to i -/
def stP (n : Nat) (G : Nat → Int) (A : Nat → Bool) (V : Nat → Value) (Z : Value) (i : Nat) : List Slt := (List.range n).map fun j => if j < i then ((G j).toNat, A j, if A j then V j else Z) else (0, false, Z)
section
variable {n : Nat} {G : Nat → Int} {A : Nat → Bool} {V : Nat → Value} {Z : Value} {i : Nat}
theorem stP_length : (stP n G A V Z i).length = n := by simp [stP]
theorem stP_get {d : Slt} {j : Nat} (hj : j < n) : (stP n G A V Z i).getD j d = if j < i then ((G j).toNat, A j, if A j then V j else Z) else (0, false, Z) := by
  simp [stP, List.getD_eq_getElem?_getD, hj]
theorem stP_zero : stP n G A V Z 0 = List.replicate n (0, false, Z) := by
  apply List.ext_getElem?
  intro j
  by_cases hj : j < n
  · simp [stP, hj]
  · simp [stP, hj]
theorem stP_succ (hi : i < n) : (stP n G A V Z i).set i ((G i).toNat, A i, if A i then V i else Z) = stP n G A V Z (i + 1) := by
  apply List.ext_getElem?
  intro j
  rw [List.getElem?_set, stP_length]
  by_cases hj : i = j
  · subst hj
    rw [if_pos rfl, if_pos hi]
    simp [stP, hi]
  · rw [if_neg hj]
    by_cases hjn : j < n
    · simp only [stP, List.getElem?_map, List.getElem?_range hjn, Option.map_some]
      by_cases h1 : j < i
      · rw [if_pos h1, if_pos (show j < i + 1 by omega)]
      · rw [if_neg h1, if_neg (show ¬ j < i + 1 by omega)]
    · simp [stP, hjn]
theorem rdyF_zero : (fun i => decide (i < n)) = rdyF (stP n G A V Z 0) := by
  funext j
  unfold rdyF
  rw [stP_length]
  by_cases hj : j < n
  · rw [stP_get hj]; simp [hj, rdy]
  · simp [hj]
theorem countP_zero : 0 = (stP n G A V Z 0).countP alv := by
  rw [stP_zero]
  have : (List.replicate n ((0, false, Z) : Slt)).countP alv = 0 := by rw [List.countP_eq_zero]; intro s hs; rw [(List.mem_replicate.1 hs).2]; simp [alv]
  rw [this]
end
theorem slotCells_two (st : List Slt) (i : Nat) (s : Slt) (hi : i < st.length) (hv : (st.getD i (0, false, undef)).2.2 = s.2.2) : slotCells (st.set i s) = ((slotCells st).set (i * 3) (.int .i64 (s.1 : Int))).set (i * 3 + 1) (.bool s.2.1) := by
  rw [slotCells_set st i hi]
  have e := slotCells_get st i 2 hi (by decide)
  rw [sc, hv] at e
  refine set_same ?_
  rw [List.getElem?_set_ne (by omega), List.getElem?_set_ne (by omega)]
  exact e.trans rfl
section
variable {TBL SLOT : TypeId} {w : World} {B p q : Nat} {st : List Slt} {m : Nat} {r : Nat → Bool}
theorem Tb.stored2 (h : Tb TBL SLOT w B p q st m r) (hs : 144 ≠ SLOT) {i : Nat} (hi : i < st.length) (s : Slt) (hv : (st.getD i (0, false, undef)).2.2 = s.2.2) :
    Tb TBL SLOT ((w.setCell ⟨q, i * 3, none⟩ (.int .i64 (s.1 : Int))).setCell ⟨q, i * 3 + 1, none⟩ (.bool s.2.1)) B p q (st.set i s) m r := by
  obtain ⟨ra, rcap, h1, h2⟩ := h.tbl
  have o1 := own_ne h2 h.slots hs
  have hq0 := h.slots
  have hne := h.ne
  refine ⟨h.hp, h.hq, h.ne, by simpa using h.n1, by simpa using h.n2, ⟨ra, rcap, ?_, ?_⟩, ?_, by simpa using h.rb⟩
  · rw [List.length_set, Below.heap_setCell _ _ _ _ hne, Below.heap_setCell _ _ _ _ hne]; exact h1
  · rw [List.length_set]
    exact ownsRow_setCell_other (ownsRow_setCell_other h2 (a := ⟨q, i * 3, none⟩) o1 _) (a := ⟨q, i * 3 + 1, none⟩) o1 _
  · rw [setCell_block (setCell_block hq0 _) _, slotCells_two st i s hi hv]; simp
end
end Go.Proofs.YtpaecmpiokkdnaaDoor
