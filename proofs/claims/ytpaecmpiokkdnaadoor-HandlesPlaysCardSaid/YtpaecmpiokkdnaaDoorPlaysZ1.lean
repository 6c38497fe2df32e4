/- Handles: the reference's SameHandles, All, Set, Drop, Put, New, over states that read as lists of slots. | Handles: the reference's New and Put. | Handles: the reference's Drop. | Handles: the reference's Put, where a slot can give a handle. | Handles: the reference's All. | Handles: the reference's Load, a state in rows of its own. | Handles: what lies in memory while calls are made on a table and on a state. | Handles: the reference's calls, on states of n slots in rows of their own. -/
import Derived.Test.YtpaecmpiokkdnaaDoorOnceZ4
import Derived.RegionTactic
import Derived.BigRegion
namespace Go.Proofs.YtpaecmpiokkdnaaDoor
open Go.RowKit Go.Sort Go.Joins
attribute [local go_sem] cell_grow frozen_grow size_grow

section
variable {a b : Option Addr} {n m ca cb : Nat} {F : Nat → Int}
set_option maxRecDepth 100000 in
set_option maxHeartbeats 1600000 in
/-- two lists that are equal -/
theorem rsh_ok (w : World) (hA : SlF w a n (zI F)) (hB : SlF w b n (zI F)) (hn : n ≤ 100000) :
    Calls Tryd.prog 49 #[.slice a n ca, .slice b n cb] w fun e w' => e = .returned (.bool true) ∧ Below w.heap.size w w' := by
  have HA := Lib.hid hA
  have HB := Lib.hid hB
  have q0 : ((n : Int) != (n : Int)) = false := by simp
  clear hA hB
  go_enter Tryd.func49, Tryd.ntmps49
  go_wp2
  go_loopw [5] (fun x wr => ∃ j : Nat, j ≤ n ∧ x = .int .i64 j ∧ Hid (Below w.heap.size w wr)) (fun x _ => n - (intOf x).toNat)
  case atStart => exact ⟨0, Nat.zero_le _, rfl, Lib.hid (Below.refl _ _)⟩
  case round =>
    obtain ⟨j, hj, rfl, HK⟩ := hrel
    by_cases hjl : j < n
    · obtain ⟨b0, o0, h0, c0⟩ := (HA.out.below HK.out).at_ hjl
      obtain ⟨b1, o1, h1, c1⟩ := (HB.out.below HK.out).at_ hjl
      subst h0 h1
      obtain ⟨z, hz⟩ : ∃ z, F j = z := ⟨_, rfl⟩
      dsimp only [zI] at c0 c1
      rw [hz] at c0 c1
      have j0 : (0 : Int) ≤ (j : Int) := by omega
      have j1 : (j : Int) < (n : Int) := by omega
      have j2 : decide ((j : Int) < (n : Int)) = true := by simp; omega
      have j3 : decide (j < n) = true := by simpa using hjl
      have q1 : (z != z) = false := by simp
      clear hz
      go_wp2
      go_quiet (fail)
      go_wp2
      go_roundw
      case rel => exact ⟨j + 1, by omega, by go_num, Lib.hid (HK.out.trans ((below_draw _ _).mono HK.out.size))⟩
      case measure => simp [intOf]; omega
    · have j2 : decide ((j : Int) < (n : Int)) = false := by simp; omega
      have j3 : decide (j < n) = false := by simpa using hjl
      go_wp2
      go_ret
      exact ⟨rfl, HK.out⟩
end
/-- slots that are not alive hold no value -/
def DZ (st : List Slt) : Prop := ∀ j, j < st.length → (sAt st j).2.1 = false → (sAt st j).2.2 = .int .i64 0
def IV (st : List Slt) : Prop := ∀ j, j < st.length → ∃ z : Int, (sAt st j).2.2 = .int .i64 z
theorem rowF_congr {n : Nat} {f g : Nat → Value} (h : ∀ j, j < n → f j = g j) : rowF n f = rowF n g := by
  unfold rowF
  exact List.map_congr_left fun j hj => h j (List.mem_range.1 hj)
theorem rowF_set {n i : Nat} {f : Nat → Value} (v : Value) : (rowF n f).set i v = rowF n (fun j => if j = i then v else f j) := by
  apply List.ext_getElem?
  intro j
  rw [List.getElem?_set, rowF_length]
  by_cases e : i = j
  · subst e
    rw [if_pos rfl]
    by_cases h : i < n
    · rw [if_pos h, rowF_get h, if_pos rfl]
    · rw [if_neg h]; simp [rowF, h]
  · rw [if_neg e]
    by_cases h : j < n
    · rw [rowF_get h, rowF_get h, if_neg (fun e' => e e'.symm)]
    · simp [rowF, h]
theorem OA.congr {w : World} {B n : Nat} {f0 f1 f2 g0 g1 g2 : Nat → Value} {r0 r1 r2 : Value} (h : OA w B n f0 f1 f2 r0 r1 r2) (h0 : ∀ j, j < n → f0 j = g0 j) (h1 : ∀ j, j < n → f1 j = g1 j) (h2 : ∀ j, j < n → f2 j = g2 j) : OA w B n g0 g1 g2 r0 r1 r2 :=
  ⟨by rw [← rowF_congr h0]; exact h.o0, by rw [← rowF_congr h1]; exact h.o1, by rw [← rowF_congr h2]; exact h.o2, h.n02⟩
theorem OA.below {w w' : World} {B n : Nat} {f0 f1 f2 : Nat → Value} {r0 r1 r2 : Value} (h : OA w B n f0 f1 f2 r0 r1 r2) (hb : Below w.heap.size w w') : OA w' B n f0 f1 f2 r0 r1 r2 :=
  ⟨own_below h.o0 hb, own_below h.o1 hb, own_below h.o2 hb, h.n02⟩
theorem OA.rs {w : World} {B : Nat} {st : List Slt} {a0 a1 a2 : Option Addr} {k0 k1 k2 : Nat} (h : OA w B st.length (zI (gF st)) (zB (aF st)) (vF st) (.slice a0 st.length k0) (.slice a1 st.length k1) (.slice a2 st.length k2)) :
    RS w (.agg #[.slice a0 st.length k0, .slice a1 st.length k1, .slice a2 st.length k2]) st := ⟨a0, k0, a1, k1, a2, k2, rfl, SlF.of_row h.o0, SlF.of_row h.o1, SlF.of_row h.o2⟩
theorem OA.rs' {w : World} {B n : Nat} {st : List Slt} {a0 a1 a2 : Option Addr} {k0 k1 k2 : Nat} (hn : st.length = n) (h : OA w B n (zI (gF st)) (zB (aF st)) (vF st) (.slice a0 n k0) (.slice a1 n k1) (.slice a2 n k2)) :
    RS w (.agg #[.slice a0 n k0, .slice a1 n k1, .slice a2 n k2]) st := by subst hn; exact h.rs
/-- a state in rows of its own that reads as a list of slots -/
def ROA (w : World) (x : Value) (st : List Slt) : Prop := ∃ B a0 k0 a1 k1 a2 k2, x = .agg #[.slice a0 st.length k0, .slice a1 st.length k1, .slice a2 st.length k2] ∧ OA w B st.length (zI (gF st)) (zB (aF st)) (vF st) (.slice a0 st.length k0) (.slice a1 st.length k1) (.slice a2 st.length k2)
theorem OA.roa {w : World} {B n : Nat} {st : List Slt} {a0 a1 a2 : Option Addr} {k0 k1 k2 : Nat} (hn : st.length = n) (h : OA w B n (zI (gF st)) (zB (aF st)) (vF st) (.slice a0 n k0) (.slice a1 n k1) (.slice a2 n k2)) :
    ROA w (.agg #[.slice a0 n k0, .slice a1 n k1, .slice a2 n k2]) st := by subst hn; exact ⟨B, a0, k0, a1, k1, a2, k2, rfl, h⟩
theorem ROA.rs {w : World} {x : Value} {st : List Slt} (h : ROA w x st) : RS w x st := by
  obtain ⟨B, a0, k0, a1, k1, a2, k2, rfl, h⟩ := h
  exact h.rs
theorem OA.low {w : World} {B n k j : Nat} {f0 f1 f2 : Nat → Value} {r0 r1 r2 : Value} (h : OA w B n f0 f1 f2 r0 r1 r2) (hk : k < B) (v : Value) : OA (w.setCell ⟨k, j, none⟩ v) B n f0 f1 f2 r0 r1 r2 :=
  ⟨ownsRow_setCell_below h.o0 (by dsimp only; omega) _, ownsRow_setCell_below h.o1 (by dsimp only; omega) _, ownsRow_setCell_below h.o2 (by dsimp only; omega) _, h.n02⟩
theorem cV_vF {st : List Slt} (h : DZ st) {j : Nat} (hj : j < st.length) : cV (aF st) (vF st) j = vF st j := by
  unfold cV
  cases ha : aF st j with
  | true => rfl
  | false => exact (h j hj ha).symm
theorem gF_set {st : List Slt} {i j : Nat} {s : Slt} (hi : i < st.length) : gF (st.set i s) j = if j = i then (s.1 : Int) else gF st j := by
  unfold gF
  rw [getD_set hi]
  by_cases e : i = j
  · rw [if_pos e, if_pos e.symm]
  · rw [if_neg e, if_neg (fun e' => e e'.symm)]
theorem aF_set {st : List Slt} {i j : Nat} {s : Slt} (hi : i < st.length) : aF (st.set i s) j = if j = i then s.2.1 else aF st j := by
  unfold aF
  rw [getD_set hi]
  by_cases e : i = j
  · rw [if_pos e, if_pos e.symm]
  · rw [if_neg e, if_neg (fun e' => e e'.symm)]
theorem vF_set {st : List Slt} {i j : Nat} {s : Slt} (hi : i < st.length) : vF (st.set i s) j = if j = i then s.2.2 else vF st j := by
  unfold vF
  rw [getD_set hi]
  by_cases e : i = j
  · rw [if_pos e, if_pos e.symm]
  · rw [if_neg e, if_neg (fun e' => e e'.symm)]
theorem DZ.set {st : List Slt} {i : Nat} {s : Slt} (h : DZ st) (hi : i < st.length) (hs : s.2.1 = false → s.2.2 = .int .i64 0) : DZ (st.set i s) := fun j hj => by
  rw [List.length_set] at hj
  rw [sAt_set hi]
  by_cases e : i = j
  · rw [if_pos e]; exact hs
  · rw [if_neg e]; exact h j hj
theorem IV.set {st : List Slt} {i : Nat} {s : Slt} (h : IV st) (hi : i < st.length) (hs : ∃ z : Int, s.2.2 = .int .i64 z) : IV (st.set i s) := KI.vals h hs hi
theorem vF_all {st : List Slt} (h : IV st) (V : Nat → Value) (hV : ∀ j, V j = if j < st.length then vF st j else .int .i64 0) : ∀ j, ∃ x : Int, V j = .int .i64 x := fun j => by
  rw [hV]
  by_cases e : j < st.length
  · rw [if_pos e]; exact h j e
  · rw [if_neg e]; exact ⟨0, rfl⟩
/-- Copy, of a state that reads as a list of slots -/
theorem copy_st (w : World) {st : List Slt} {ga aa va : Option Addr} {gc ac vc : Nat} (hr : RA w st ga aa va) (hi : IV st) (hz : DZ st) (h1 : 1 ≤ st.length) (h2 : st.length ≤ 1024) :
    Calls Tryd.prog 56 #[.agg #[.slice ga st.length gc, .slice aa st.length ac, .slice va st.length vc]] w fun e w' => ∃ a0 k0 a1 k1 a2 k2, e = .returned (.agg #[.slice a0 st.length k0, .slice a1 st.length k1, .slice a2 st.length k2]) ∧
      OA w' (w.heap.size + 2) st.length (zI (gF st)) (zB (aF st)) (vF st) (.slice a0 st.length k0) (.slice a1 st.length k1) (.slice a2 st.length k2) ∧ Below w.heap.size w w' := by
  obtain ⟨V, hV⟩ : ∃ V : Nat → Value, ∀ j, V j = if j < st.length then vF st j else .int .i64 0 := ⟨_, fun _ => rfl⟩
  refine (copy_ok w hr.g hr.a (hr.v.congr (g := V) fun j hj => by rw [hV, if_pos hj]) (vF_all hi V hV) h1 h2).mono ?_
  rintro e w' ⟨a0, k0, a1, k1, a2, k2, he, ho, hb⟩
  refine ⟨a0, k0, a1, k1, a2, k2, he, ho.congr (fun _ _ => rfl) (fun _ _ => rfl) (fun j hj => ?_), hb⟩
  rw [← cV_vF hz hj]
  unfold cV
  cases aF st j with
  | true => rw [if_pos rfl, if_pos rfl, hV, if_pos hj]
  | false => rfl
theorem OA.set0 {w : World} {B n i g k : Nat} {f0 f1 f2 : Nat → Value} {r1 r2 : Value} (h : OA w B n f0 f1 f2 (.slice (some ⟨g, 0, none⟩) n k) r1 r2) (hi : i < n) (v : Value) : OA (w.setCell ⟨g, i, none⟩ v) B n (fun j => if j = i then v else f0 j) f1 f2 (.slice (some ⟨g, 0, none⟩) n k) r1 r2 := by
  refine ⟨by rw [← rowF_set]; exact own_setAt h.o0 hi v, ?_, ?_, h.n02⟩
  · refine ownsRow_setCell_other h.o1 (a := ⟨g, i, none⟩) ?_ _
    rcases h.o0.2 with ⟨h1, _⟩ | ⟨g', cap', cur, e1, _, e3, _⟩
    · cases h1
    · simp only [Value.slice.injEq, Option.some.injEq, Addr.mk.injEq, and_true, true_and] at e1
      obtain ⟨rfl, rfl⟩ := e1
      exact own_ne h.o1 e3 (by decide)
  · exact ownsRow_setCell_other h.o2 (a := ⟨g, i, none⟩) (h.n02 g rfl) _
theorem OA.set1 {w : World} {B n i g k : Nat} {f0 f1 f2 : Nat → Value} {r0 r2 : Value} (h : OA w B n f0 f1 f2 r0 (.slice (some ⟨g, 0, none⟩) n k) r2) (hi : i < n) (v : Value) : OA (w.setCell ⟨g, i, none⟩ v) B n f0 (fun j => if j = i then v else f1 j) f2 r0 (.slice (some ⟨g, 0, none⟩) n k) r2 := by
  have hne : ∀ {r : Value} {xs : List Value}, w.ownsRow B 3 1 r n xs → r.ownBlock ≠ some g := by
    intro r xs hr
    rcases h.o1.2 with ⟨h1, _⟩ | ⟨g', cap', cur, e1, _, e3, _⟩
    · cases h1
    · simp only [Value.slice.injEq, Option.some.injEq, Addr.mk.injEq, and_true, true_and] at e1
      obtain ⟨rfl, rfl⟩ := e1
      exact own_ne hr e3 (by decide)
  exact ⟨ownsRow_setCell_other h.o0 (a := ⟨g, i, none⟩) (hne h.o0) _, by rw [← rowF_set]; exact own_setAt h.o1 hi v, ownsRow_setCell_other h.o2 (a := ⟨g, i, none⟩) (hne h.o2) _, h.n02⟩
theorem OA.set2 {w : World} {B n i g k : Nat} {f0 f1 f2 : Nat → Value} {r0 r1 : Value} (h : OA w B n f0 f1 f2 r0 r1 (.slice (some ⟨g, 0, none⟩) n k)) (hi : i < n) (v : Value) : OA (w.setCell ⟨g, i, none⟩ v) B n f0 f1 (fun j => if j = i then v else f2 j) r0 r1 (.slice (some ⟨g, 0, none⟩) n k) := by
  refine ⟨ownsRow_setCell_other h.o0 (a := ⟨g, i, none⟩) (fun e => h.n02 g e rfl) _, ?_, by rw [← rowF_set]; exact own_setAt h.o2 hi v, h.n02⟩
  refine ownsRow_setCell_other h.o1 (a := ⟨g, i, none⟩) ?_ _
  rcases h.o2.2 with ⟨h1, _⟩ | ⟨g', cap', cur, e1, _, e3, _⟩
  · cases h1
  · simp only [Value.slice.injEq, Option.some.injEq, Addr.mk.injEq, and_true, true_and] at e1
    obtain ⟨rfl, rfl⟩ := e1
    exact own_ne h.o1 e3 (by decide)
theorem OA.blk0 {w : World} {B n : Nat} {f0 f1 f2 : Nat → Value} {r1 r2 : Value} {a : Option Addr} {k : Nat} (h : OA w B n f0 f1 f2 (.slice a n k) r1 r2) (hn : 0 < n) : ∃ g, a = some ⟨g, 0, none⟩ ∧ B ≤ g ∧ g < w.heap.size ∧ (∀ j, w.frozen? ⟨g, j, none⟩ = false) ∧ ∀ j, j < n → w.cell? ⟨g, j, none⟩ = some (f0 j) := by
  obtain ⟨g, cap, e⟩ := own_form' h.o0 hn
  simp only [Value.slice.injEq] at e
  obtain ⟨rfl, -, rfl⟩ := e
  exact ⟨g, rfl, (h.o0.lt g rfl).1, (h.o0.lt g rfl).2, own_free h.o0, fun j hj => by rw [h.o0.cellAt j (by omega), rowF_get hj]⟩
theorem OA.blk1 {w : World} {B n : Nat} {f0 f1 f2 : Nat → Value} {r0 r2 : Value} {a : Option Addr} {k : Nat} (h : OA w B n f0 f1 f2 r0 (.slice a n k) r2) (hn : 0 < n) : ∃ g, a = some ⟨g, 0, none⟩ ∧ B ≤ g ∧ g < w.heap.size ∧ (∀ j, w.frozen? ⟨g, j, none⟩ = false) ∧ ∀ j, j < n → w.cell? ⟨g, j, none⟩ = some (f1 j) := by
  obtain ⟨g, cap, e⟩ := own_form' h.o1 hn
  simp only [Value.slice.injEq] at e
  obtain ⟨rfl, -, rfl⟩ := e
  exact ⟨g, rfl, (h.o1.lt g rfl).1, (h.o1.lt g rfl).2, own_free h.o1, fun j hj => by rw [h.o1.cellAt j (by omega), rowF_get hj]⟩
theorem OA.blk2 {w : World} {B n : Nat} {f0 f1 f2 : Nat → Value} {r0 r1 : Value} {a : Option Addr} {k : Nat} (h : OA w B n f0 f1 f2 r0 r1 (.slice a n k)) (hn : 0 < n) : ∃ g, a = some ⟨g, 0, none⟩ ∧ B ≤ g ∧ g < w.heap.size ∧ (∀ j, w.frozen? ⟨g, j, none⟩ = false) ∧ ∀ j, j < n → w.cell? ⟨g, j, none⟩ = some (f2 j) := by
  obtain ⟨g, cap, e⟩ := own_form' h.o2 hn
  simp only [Value.slice.injEq] at e
  obtain ⟨rfl, -, rfl⟩ := e
  exact ⟨g, rfl, (h.o2.lt g rfl).1, (h.o2.lt g rfl).2, own_free h.o2, fun j hj => by rw [h.o2.cellAt j (by omega), rowF_get hj]⟩

section
variable {st : List Slt} {ga aa va : Option Addr} {gc ac vc : Nat}
abbrev sV (ga aa va : Option Addr) (n gc ac vc : Nat) : Value := .agg #[.slice ga n gc, .slice aa n ac, .slice va n vc]
/-- what a call leaves of a box below it -/
theorem box_cells {w w' : World} {k : Nat} {a b c : Value} {t : TypeId} (hb : Below w.heap.size w w') (h : w.heap[k]? = some (.cells #[a, b, c] t (0, 0))) : w'.heap[k]? = some (.cells #[a, b, c] t (0, 0)) := (hb.block _ (blk_lt h)).trans h
set_option maxRecDepth 100000 in
set_option maxHeartbeats 3200000 in
theorem rset_err (h v : Int) (w : World) (hr : RA w st ga aa va) (hn : st.length ≤ 1024) (he : findE st h ≠ 0) :
    Calls Tryd.prog 70 #[.agg #[.slice ga st.length gc, .slice aa st.length ac, .slice va st.length vc], .int .i64 h, .int .i64 v] w fun e w' => e = .returned (.tuple #[.agg #[.slice ga st.length gc, .slice aa st.length ac, .slice va st.length vc], .int .i64 (findE st h)]) ∧ Below w.heap.size w w' := by
  have bb := (below_box0 w (.cells #[.slice ga st.length gc, .slice aa st.length ac, .slice va st.length vc] 35)).trans ((below_box0 (w.alloc (.cells #[.slice ga st.length gc, .slice aa st.length ac, .slice va st.length vc] 35)) (.cells #[.slice none 0 0, .slice none 0 0, .slice none 0 0] 35)).mono (by simp))
  have HB := Lib.hid bb
  have HR := Lib.hid (hr.below bb)
  have hq := bne0_true he
  clear bb hr he
  go_enter Tryd.func70, Tryd.ntmps70
  go_wp2_with fail
  refine (rfind_ok h _ HR.out hn).mono ?_
  rintro e w1 ⟨rfl, b1⟩
  have k0 : w1.cell? ⟨w.heap.size, 0, none⟩ = some (.slice ga st.length gc) := (b1.cell (p := ⟨w.heap.size, 0, none⟩) (by simp; omega)).trans (by simp [go_sem])
  have k1 : w1.cell? ⟨w.heap.size, 1, none⟩ = some (.slice aa st.length ac) := (b1.cell (p := ⟨w.heap.size, 1, none⟩) (by simp; omega)).trans (by simp [go_sem])
  have k2 : w1.cell? ⟨w.heap.size, 2, none⟩ = some (.slice va st.length vc) := (b1.cell (p := ⟨w.heap.size, 2, none⟩) (by simp; omega)).trans (by simp [go_sem])
  have q0 : w1.cell? ⟨w.heap.size + 1, 0, none⟩ = some (.slice none 0 0) := (b1.cell (p := ⟨w.heap.size + 1, 0, none⟩) (by simp)).trans (by simp [go_sem])
  have q1 : w1.cell? ⟨w.heap.size + 1, 1, none⟩ = some (.slice none 0 0) := (b1.cell (p := ⟨w.heap.size + 1, 1, none⟩) (by simp)).trans (by simp [go_sem])
  have q2 : w1.cell? ⟨w.heap.size + 1, 2, none⟩ = some (.slice none 0 0) := (b1.cell (p := ⟨w.heap.size + 1, 2, none⟩) (by simp)).trans (by simp [go_sem])
  have qz : ∀ j, w1.frozen? ⟨w.heap.size + 1, j, none⟩ = false := fun j => (b1.frozen (p := ⟨w.heap.size + 1, j, none⟩) (by simp)).trans (by simp [go_sem])
  have HB1 := Lib.hid (HB.out.trans (b1.mono (by simp; omega)))
  clear b1
  go_wp2
  refine bodyPost_ret (v := .tuple #[.agg #[.slice ga st.length gc, .slice aa st.length ac, .slice va st.length vc], .int .i64 (findE st h)]) (by simp [results, Tryd.f70, go_sem, q0, q1, q2]) rfl ?_
  exact ⟨rfl, ((HB1.out.setCell (p := ⟨w.heap.size + 1, 0, none⟩) (by dsimp only; omega) _).setCell (p := ⟨w.heap.size + 1, 1, none⟩) (by dsimp only; omega) _).setCell (p := ⟨w.heap.size + 1, 2, none⟩) (by dsimp only; omega) _⟩
theorem findI_at {st : List Slt} {h : Int} {i : Nat} (he : findE st h = 0) (hi : slotI h = i) : findI st h = i := by unfold findI; rw [if_pos he, hi]
set_option maxRecDepth 100000 in
set_option maxHeartbeats 6400000 in
theorem rset_ok (h v : Int) (i : Nat) (w : World) (hr : RA w st ga aa va) (hI : IV st) (hZ : DZ st) (h1 : 1 ≤ st.length) (hn : st.length ≤ 1024) (he : findE st h = 0) (hi : slotI h = i) :
    Calls Tryd.prog 70 #[.agg #[.slice ga st.length gc, .slice aa st.length ac, .slice va st.length vc], .int .i64 h, .int .i64 v] w fun e w' => ∃ x, e = .returned (.tuple #[x, .int .i64 0]) ∧
      ROA w' x (st.set i ((st.getD i (0, false, undef)).1, (st.getD i (0, false, undef)).2.1, .int .i64 v)) ∧ Below w.heap.size w w' := by
  obtain ⟨i', hi', hlt, hal, _⟩ := Int.findE_zero he
  obtain rfl : i' = i := by omega
  have bb := (below_box0 w (.cells #[.slice ga st.length gc, .slice aa st.length ac, .slice va st.length vc] 35)).trans ((below_box0 (w.alloc (.cells #[.slice ga st.length gc, .slice aa st.length ac, .slice va st.length vc] 35)) (.cells #[.slice none 0 0, .slice none 0 0, .slice none 0 0] 35)).mono (by simp))
  have HB := Lib.hid bb
  have HR := Lib.hid (hr.below bb)
  have HF := Lib.hid (findI_at he hi)
  have HE := Lib.hid he
  have HI := Lib.hid hI
  have HZ := Lib.hid hZ
  obtain ⟨old, hold⟩ := hI i' hlt
  have hold : vF st i' = .int .i64 old := hold
  have HO := Lib.hid hold
  obtain ⟨n, hnn⟩ : ∃ n, st.length = n := ⟨_, rfl⟩
  have i0 : (0 : Int) ≤ (i' : Int) := by omega
  have i1 : (i' : Int) < (n : Int) := by omega
  have HN := Lib.hid hnn
  have hfd := fun W (hr : RA W st ga aa va) => rfind_ok (gc := gc) (ac := ac) (vc := vc) h W hr hn
  have hcd := fun W (hr : RA W st ga aa va) => copy_st (gc := gc) (ac := ac) (vc := vc) W hr HI.out HZ.out h1 hn
  simp only [hnn] at hfd hcd
  have HFD := Lib.hid hfd
  have HCD := Lib.hid hcd
  clear hfd hcd
  have h1' : 1 ≤ n := by omega
  have hl' : i' < n := by omega
  have HL := Lib.hid hlt
  clear bb hr he hi hi' hI hZ hold hal hlt
  rw [hnn] at HB HR ⊢
  clear hnn
  go_enter Tryd.func70, Tryd.ntmps70
  go_wp2_with fail
  refine (HFD.out _ HR.out).mono ?_
  rintro e w1 ⟨rfl, b1⟩
  rw [HF.out, HE.out]
  have k0 : w1.cell? ⟨w.heap.size, 0, none⟩ = some (.slice ga n gc) := (b1.cell (p := ⟨w.heap.size, 0, none⟩) (by simp; omega)).trans (by simp [go_sem])
  have k1 : w1.cell? ⟨w.heap.size, 1, none⟩ = some (.slice aa n ac) := (b1.cell (p := ⟨w.heap.size, 1, none⟩) (by simp; omega)).trans (by simp [go_sem])
  have k2 : w1.cell? ⟨w.heap.size, 2, none⟩ = some (.slice va n vc) := (b1.cell (p := ⟨w.heap.size, 2, none⟩) (by simp; omega)).trans (by simp [go_sem])
  have hx1 : w1.heap[w.heap.size + 1]? = some (.cells #[.slice none 0 0, .slice none 0 0, .slice none 0 0] 35 (0, 0)) := (b1.block _ (by simp)).trans (by have := heap_alloc_new (w.alloc (.cells #[.slice ga n gc, .slice aa n ac, .slice va n vc] 35)) (.cells #[.slice none 0 0, .slice none 0 0, .slice none 0 0] 35); rwa [World.size_alloc] at this)
  have HB1 := Lib.hid (HB.out.trans (b1.mono (by simp; omega)))
  have HR1 := Lib.hid (HR.out.below b1)
  have HX1 := Lib.hid hx1
  clear b1 hx1
  go_wp2_with fail
  refine (HCD.out w1 HR1.out).mono ?_
  rintro e w2 ⟨a0, q0, a1, q1, a2, q2, rfl, o2, b2⟩
  have HX2 := Lib.hid ((b2.block _ (blk_lt HX1.out)).trans HX1.out)
  have HB2 := Lib.hid (HB1.out.trans (b2.mono HB1.out.size))
  obtain ⟨g, hg, hgB, hgl, hgz, hgc⟩ := o2.blk2 (by omega)
  subst hg
  have hs1 := blk_lt HX1.out
  have hgc' := hgc i' hl'
  rw [HO.out] at hgc'
  have gz := hgz i'
  have HO3 := Lib.hid (o2.set2 hl' (.int .i64 v))
  have x2 := HX2.out
  have qa : w2.cell? ⟨w.heap.size + 1, 0, none⟩ = some (.slice none 0 0) := by rw [cell_of_block x2]; rfl
  have qb : w2.cell? ⟨w.heap.size + 1, 1, none⟩ = some (.slice none 0 0) := by rw [cell_of_block x2]; rfl
  have qc : w2.cell? ⟨w.heap.size + 1, 2, none⟩ = some (.slice none 0 0) := by rw [cell_of_block x2]; rfl
  have qz : ∀ j, w2.frozen? ⟨w.heap.size + 1, j, none⟩ = false := fun j => unfrozen_of_block x2 j
  have hs2 : w.heap.size + 1 < w2.heap.size := blk_lt x2
  have ne1 : g ≠ w2.heap.size := by omega
  have ne2 : g ≠ w.heap.size + 1 := by omega
  have ne3 : w2.heap.size ≠ g := by omega
  have ne4 : w.heap.size + 1 ≠ g := by omega
  have HHG := Lib.hid hgB
  clear b2 o2 hgc hgz x2 hgB
  go_wp2
  refine bodyPost_ret (v := .tuple #[.agg #[.slice a0 n q0, .slice a1 n q1, .slice (some ⟨g, 0, none⟩) n q2], .int .i64 0]) (by simp [results, Tryd.f70, go_sem, qa, qb, qc, ne1, ne2, ne3, ne4, hs2, World.size_setCell]) rfl ?_
  have hk := ((((HB2.out.setCell (p := ⟨g, i', none⟩) (by dsimp only; have := HHG.out; have := HB1.out.size; omega) (.int .i64 v)).setCell (p := ⟨w.heap.size + 1, 0, none⟩) (by dsimp only; omega) (.slice a0 n q0)).setCell (p := ⟨w.heap.size + 1, 1, none⟩) (by dsimp only; omega) (.slice a1 n q1)).setCell (p := ⟨w.heap.size + 1, 2, none⟩) (by dsimp only; omega) (.slice (some ⟨g, 0, none⟩) n q2)).alloc (by simp only [World.size_setCell]; omega) (.cells #[.slice a0 n q0, .slice a1 n q1, .slice (some ⟨g, 0, none⟩) n q2] 35)
  refine ⟨_, rfl, ?_, hk⟩
  have o4 := ((HO3.out.low (k := w.heap.size + 1) (j := 0) (by have := HB1.out.size; omega) (.slice a0 n q0)).low (k := w.heap.size + 1) (j := 1) (by have := HB1.out.size; omega) (.slice a1 n q1)).low (k := w.heap.size + 1) (j := 2) (by have := HB1.out.size; omega) (.slice (some ⟨g, 0, none⟩) n q2)
  obtain rfl := HN.out
  have hlt := HL.out
  refine OA.roa (by simp) ((o4.below (below_box0 _ _)).congr (fun j hj => ?_) (fun j hj => ?_) (fun j hj => ?_))
  · unfold zI; rw [gF_set hlt]; by_cases e : j = i' <;> simp [e, gF]
  · unfold zB; rw [aF_set hlt]; by_cases e : j = i' <;> simp [e, aF]
  · rw [vF_set hlt]
end
end Go.Proofs.YtpaecmpiokkdnaaDoor

namespace Go.Proofs.YtpaecmpiokkdnaaDoor
open Go.RowKit Go.Sort Go.Joins
attribute [local go_sem] cell_grow frozen_grow size_grow

set_option maxRecDepth 100000 in
set_option maxHeartbeats 1600000 in
theorem rnew_err (n : Int) (w : World) (h : n < 1 ∨ 1024 < n) :
    Calls Tryd.prog 46 #[.int .i64 n] w fun e w' => e = .returned (.tuple #[.agg #[.slice none 0 0, .slice none 0 0, .slice none 0 0], .int .i64 7]) ∧ Below w.heap.size w w' := by
  have bb := below_box0 w (.cells #[.slice none 0 0, .slice none 0 0, .slice none 0 0] 35)
  have HB := Lib.hid bb
  have key : (decide (n < 1) = true) ∨ (decide (n < 1) = false ∧ decide (1024 < n) = true) := by
    by_cases h1 : n < 1
    · exact .inl (by simpa using h1)
    · exact .inr ⟨by simpa using h1, by simp; omega⟩
  clear bb h
  rcases key with d1 | ⟨d1, d2⟩
  all_goals
    go_enter Tryd.func46, Tryd.ntmps46
    go_wp2
    refine bodyPost_ret (v := .tuple #[.agg #[.slice none 0 0, .slice none 0 0, .slice none 0 0], .int .i64 7]) (by simp [results, Tryd.f46, go_sem]) rfl ?_
    first | exact ⟨rfl, HB.out⟩ | exact ⟨rfl, ((HB.out.setCell (p := ⟨w.heap.size, 0, none⟩) (Nat.le_refl _) _).setCell (p := ⟨w.heap.size, 1, none⟩) (Nat.le_refl _) _).setCell (p := ⟨w.heap.size, 2, none⟩) (Nat.le_refl _) _⟩
theorem zeros_row (z : Value) (hz : z.cells = #[z]) (n : Nat) : madeCells z.cells n = (rowF n (fun _ => z)).toArray := by
  apply Array.ext_getElem?
  intro j
  rw [hz]
  by_cases h : j < n
  · simp [madeCells, rowF, h, Nat.mod_one]
  · simp [madeCells, rowF, h]
theorem run_make_ints (n : Nat) (hn : n ≤ 1024) (w : World) :
    (Instr.makeSlice 32 (.int .i64 (n : Int)) (.int .i64 (n : Int))).run Tryd.prog w = .ok (.slice (some ⟨w.heap.size, 0, none⟩) n n) (w.alloc (.cells (rowF n (fun _ => .int .i64 0)).toArray 3)) := by
  obtain ⟨i0, hi, hz0, hz1, hz2⟩ := info_parts info_int'
  have h := run_make (P := Tryd.prog) w 32 3 i0 _ Tryd.underlying32 hi hz0 .i64 .i64 n n (by omega) (by omega) (by rw [hz2]; omega) (by omega)
  rw [h, Int.toNat_natCast, hz1, Nat.mul_one, zeros_row _ rfl]
theorem run_make_bools (n : Nat) (hn : n ≤ 1024) (w : World) :
    (Instr.makeSlice 33 (.int .i64 (n : Int)) (.int .i64 (n : Int))).run Tryd.prog w = .ok (.slice (some ⟨w.heap.size, 0, none⟩) n n) (w.alloc (.cells (rowF n (fun _ => .bool false)).toArray 4)) := by
  obtain ⟨i0, hi, hz0, hz1, hz2⟩ := info_parts info_bool'
  have h := run_make (P := Tryd.prog) w 33 4 i0 _ Tryd.underlying33 hi hz0 .i64 .i64 n n (by omega) (by omega) (by rw [hz2]; omega) (by omega)
  rw [h, Int.toNat_natCast, hz1, Nat.mul_one, zeros_row _ rfl]
theorem al4 (w : World) (a b c d : Array Value) (t1 t2 t3 t4 : TypeId) :
    ((((w.alloc (.cells a t1)).alloc (.cells b t2)).alloc (.cells c t3)).alloc (.cells d t4)).drew.heap[w.heap.size + 1]? = some (.cells b t2 (0, 0)) ∧
    ((((w.alloc (.cells a t1)).alloc (.cells b t2)).alloc (.cells c t3)).alloc (.cells d t4)).drew.heap[w.heap.size + 1 + 1]? = some (.cells c t3 (0, 0)) ∧
    ((((w.alloc (.cells a t1)).alloc (.cells b t2)).alloc (.cells c t3)).alloc (.cells d t4)).drew.heap[w.heap.size + 1 + 1 + 1]? = some (.cells d t4 (0, 0)) := by
  have e1 := heap_alloc_new (w.alloc (.cells a t1)) (.cells b t2)
  have e2 := heap_alloc_new ((w.alloc (.cells a t1)).alloc (.cells b t2)) (.cells c t3)
  have e3 := heap_alloc_new (((w.alloc (.cells a t1)).alloc (.cells b t2)).alloc (.cells c t3)) (.cells d t4)
  simp only [World.size_alloc] at e1 e2 e3
  refine ⟨?_, ?_, e3⟩
  · exact (Below.heap_alloc _ _ _ (by simp only [World.size_alloc]; omega)).trans ((Below.heap_alloc _ _ _ (by simp only [World.size_alloc]; omega)).trans e1)
  · exact (Below.heap_alloc _ _ _ (by simp only [World.size_alloc]; omega)).trans e2
theorem bl4 (w : World) (a b c d : Obj) : Below w.heap.size w ((((w.alloc a).alloc b).alloc c).alloc d).drew :=
  ((((((Below.refl _ w).alloc (Nat.le_refl _) a).alloc (by simp) b).alloc (by simp; omega) c).alloc (by simp; omega) d)).drew
theorem own_new {w : World} {n : Nat} {e : TypeId} {f : Nat → Value} {g : Nat} (hg : w.heap[g]? = some (.cells (rowF n f).toArray e (0, 0))) (hn : n ≤ 1024) {B : Nat} (hB : B ≤ g) : w.ownsRow B e 1 (.slice (some ⟨g, 0, none⟩) n n) n (rowF n f) :=
  ⟨by rw [rowF_length, Nat.mul_one], .inr ⟨g, n, _, rfl, hB, hg, Nat.le_refl _, by unfold maxLen; omega, by simp [rowF_length], by simp [rowF, List.take_of_length_le]⟩⟩
theorem rs_new {w : World} {n g0 g1 g2 : Nat} (h0 : w.heap[g0]? = some (.cells (rowF n (fun _ => .int .i64 0)).toArray 3 (0, 0))) (h1 : w.heap[g1]? = some (.cells (rowF n (fun _ => .bool false)).toArray 4 (0, 0))) (h2 : w.heap[g2]? = some (.cells (rowF n (fun _ => .int .i64 0)).toArray 3 (0, 0))) (hn : n ≤ 1024) (h02 : g0 ≠ g2) :
    ROA w (.agg #[.slice (some ⟨g0, 0, none⟩) n n, .slice (some ⟨g1, 0, none⟩) n n, .slice (some ⟨g2, 0, none⟩) n n]) (List.replicate n (0, false, .int .i64 0)) := by
  have hget : ∀ j, j < n → (List.replicate n ((0, false, .int .i64 0) : Slt)).getD j (0, false, undef) = (0, false, .int .i64 0) := fun j hj => by simp [List.getD_eq_getElem?_getD, hj]
  refine OA.roa (B := 0) List.length_replicate ?_
  refine OA.congr (f0 := fun _ => .int .i64 0) (f1 := fun _ => .bool false) (f2 := fun _ => .int .i64 0) ⟨own_new h0 hn (Nat.zero_le _), own_new h1 hn (Nat.zero_le _), own_new h2 hn (Nat.zero_le _), fun g e e' => ?_⟩ (fun j hj => ?_) (fun j hj => ?_) (fun j hj => ?_)
  · simp only [Value.ownBlock, Option.some.injEq] at e e'
    omega
  · dsimp only [zI, gF]; rw [hget j hj]; rfl
  · dsimp only [zB, aF]; rw [hget j hj]
  · dsimp only [vF]; rw [hget j hj]

set_option maxRecDepth 100000 in
set_option maxHeartbeats 3200000 in
theorem rnew_ok (n : Nat) (w : World) (h1 : 1 ≤ n) (h2 : n ≤ 1024) :
    Calls Tryd.prog 46 #[.int .i64 n] w fun e w' => ∃ x, e = .returned (.tuple #[x, .int .i64 0]) ∧ ROA w' x (List.replicate n (0, false, .int .i64 0)) ∧ Below w.heap.size w w' := by
  have bb := below_box0 w (.cells #[.slice none 0 0, .slice none 0 0, .slice none 0 0] 35)
  have HB := Lib.hid bb
  have d1 : decide ((n : Int) < 1) = false := by simp; omega
  have d2 : decide ((1024 : Int) < (n : Int)) = false := by simp; omega
  have d3 : decide (1024 < n) = false := by simp; omega
  have m1 := run_make_ints n h2
  have m2 := run_make_bools n h2
  clear bb
  go_enter Tryd.func46, Tryd.ntmps46
  go_wp2
  go_region
  all_goals go_wp2
  all_goals first
    | (refine bodyPost_ret (v := .tuple #[.agg #[.slice (some ⟨w.heap.size + 1, 0, none⟩) n n, .slice (some ⟨w.heap.size + 1 + 1, 0, none⟩) n n, .slice (some ⟨w.heap.size + 1 + 1 + 1, 0, none⟩) n n], .int .i64 0]) ?_ rfl ?_
       · (simp [results, Tryd.f46, go_sem]; done)
       · refine ⟨_, rfl, ?_, ?_⟩
         · exact rs_new (al4 w _ _ _ _ _ _ _ _).1 (al4 w _ _ _ _ _ _ _ _).2.1 (al4 w _ _ _ _ _ _ _ _).2.2 h2 (by omega)
         · exact bl4 w _ _ _ _)
    | (refine bodyPost_ret (v := .tuple #[.agg #[.slice (some ⟨w.heap.size + 1, 0, none⟩) n n, .slice (some ⟨w.heap.size + 1 + 1 + 1, 0, none⟩) n n, .slice (some ⟨w.heap.size + 1 + 1, 0, none⟩) n n], .int .i64 0]) ?_ rfl ?_
       · (simp [results, Tryd.f46, go_sem]; done)
       · refine ⟨_, rfl, ?_, ?_⟩
         · exact rs_new (al4 w _ _ _ _ _ _ _ _).1 (al4 w _ _ _ _ _ _ _ _).2.2 (al4 w _ _ _ _ _ _ _ _).2.1 h2 (by omega)
         · exact bl4 w _ _ _ _)
    | (refine bodyPost_ret (v := .tuple #[.agg #[.slice (some ⟨w.heap.size + 1 + 1, 0, none⟩) n n, .slice (some ⟨w.heap.size + 1, 0, none⟩) n n, .slice (some ⟨w.heap.size + 1 + 1 + 1, 0, none⟩) n n], .int .i64 0]) ?_ rfl ?_
       · (simp [results, Tryd.f46, go_sem]; done)
       · refine ⟨_, rfl, ?_, ?_⟩
         · exact rs_new (al4 w _ _ _ _ _ _ _ _).2.1 (al4 w _ _ _ _ _ _ _ _).1 (al4 w _ _ _ _ _ _ _ _).2.2 h2 (by omega)
         · exact bl4 w _ _ _ _)
    | (refine bodyPost_ret (v := .tuple #[.agg #[.slice (some ⟨w.heap.size + 1 + 1, 0, none⟩) n n, .slice (some ⟨w.heap.size + 1 + 1 + 1, 0, none⟩) n n, .slice (some ⟨w.heap.size + 1, 0, none⟩) n n], .int .i64 0]) ?_ rfl ?_
       · (simp [results, Tryd.f46, go_sem]; done)
       · refine ⟨_, rfl, ?_, ?_⟩
         · exact rs_new (al4 w _ _ _ _ _ _ _ _).2.1 (al4 w _ _ _ _ _ _ _ _).2.2 (al4 w _ _ _ _ _ _ _ _).1 h2 (by omega)
         · exact bl4 w _ _ _ _)
    | (refine bodyPost_ret (v := .tuple #[.agg #[.slice (some ⟨w.heap.size + 1 + 1 + 1, 0, none⟩) n n, .slice (some ⟨w.heap.size + 1, 0, none⟩) n n, .slice (some ⟨w.heap.size + 1 + 1, 0, none⟩) n n], .int .i64 0]) ?_ rfl ?_
       · (simp [results, Tryd.f46, go_sem]; done)
       · refine ⟨_, rfl, ?_, ?_⟩
         · exact rs_new (al4 w _ _ _ _ _ _ _ _).2.2 (al4 w _ _ _ _ _ _ _ _).1 (al4 w _ _ _ _ _ _ _ _).2.1 h2 (by omega)
         · exact bl4 w _ _ _ _)
    | (refine bodyPost_ret (v := .tuple #[.agg #[.slice (some ⟨w.heap.size + 1 + 1 + 1, 0, none⟩) n n, .slice (some ⟨w.heap.size + 1 + 1, 0, none⟩) n n, .slice (some ⟨w.heap.size + 1, 0, none⟩) n n], .int .i64 0]) ?_ rfl ?_
       · (simp [results, Tryd.f46, go_sem]; done)
       · refine ⟨_, rfl, ?_, ?_⟩
         · exact rs_new (al4 w _ _ _ _ _ _ _ _).2.2 (al4 w _ _ _ _ _ _ _ _).2.1 (al4 w _ _ _ _ _ _ _ _).1 h2 (by omega)
         · exact bl4 w _ _ _ _)
theorem rdyF_no {st : List Slt} {j : Nat} (hj : j < st.length) (h : rdyF st j = false) (hg : (st.getD j (0, false, undef)).1 ≤ 65535) : (st.getD j (0, false, undef)).2.1 = true ∨ (st.getD j (0, false, undef)).1 = 65535 := by
  unfold rdyF rdy at h
  cases ha : (st.getD j (0, false, undef)).2.1 with
  | true => exact .inl rfl
  | false =>
    rw [ha] at h
    simp [hj] at h
    right; simp only [List.getD_eq_getElem?_getD] at hg ⊢; simp [hj] at hg ⊢; omega
section
variable {st : List Slt} {ga aa va : Option Addr} {gc ac vc : Nat}
set_option maxRecDepth 100000 in
set_option maxHeartbeats 6400000 in
theorem rput_full (v : Int) (w : World) (hr : RA w st ga aa va) (hn : st.length ≤ 1024) (hg : ∀ j, j < st.length → (st.getD j (0, false, undef)).1 ≤ 65535) (hf : ∀ j, j < st.length → rdyF st j = false) :
    Calls Tryd.prog 72 #[.agg #[.slice ga st.length gc, .slice aa st.length ac, .slice va st.length vc], .int .i64 v] w fun e w' => e = .returned (.tuple #[.agg #[.slice ga st.length gc, .slice aa st.length ac, .slice va st.length vc], .int .i64 0, .int .i64 5]) ∧ Below w.heap.size w w' := by
  have bb := (below_box0 w (.cells #[.slice ga st.length gc, .slice aa st.length ac, .slice va st.length vc] 35)).trans ((below_box0 (w.alloc (.cells #[.slice ga st.length gc, .slice aa st.length ac, .slice va st.length vc] 35)) (.cells #[.slice none 0 0, .slice none 0 0, .slice none 0 0] 35)).mono (by simp))
  have HB := Lib.hid bb
  have HR := Lib.hid (hr.below bb)
  have HG := Lib.hid hg
  have HF := Lib.hid hf
  obtain ⟨n, hnn⟩ : ∃ n, st.length = n := ⟨_, rfl⟩
  have HN := Lib.hid hnn
  clear bb hr hg hf
  rw [hnn] at HB HR hn ⊢
  clear hnn
  go_enter Tryd.func72, Tryd.ntmps72
  go_wp2
  go_loop [7] (fun x => ∃ j : Nat, j ≤ n ∧ x = .int .i64 j) (fun x => n - (intOf x).toNat)
  case atStart => exact ⟨0, Nat.zero_le _, rfl⟩
  case round =>
    obtain ⟨j, hj, rfl⟩ := hrel
    by_cases hjl : j < n
    · have hj' : j < st.length := by rw [HN.out]; exact hjl
      obtain ⟨b0, o0, h0, c0⟩ := HR.out.g.at_ hj'
      obtain ⟨b1, o1, h1, c1⟩ := HR.out.a.at_ hj'
      subst h0 h1
      have hno := rdyF_no hj' (HF.out j hj') (HG.out j hj')
      obtain ⟨⟨g, al, vl⟩, hS⟩ : ∃ s, st.getD j (0, false, undef) = s := ⟨_, rfl⟩
      dsimp only [zI, zB, gF, aF] at c0 c1
      rw [hS] at c0 c1 hno
      dsimp only at c0 c1 hno
      have j0 : (0 : Int) ≤ (j : Int) := by omega
      have j1 : (j : Int) < (n : Int) := by omega
      have j2 : decide ((j : Int) < (n : Int)) = true := by simp; omega
      have j3 : decide (j < n) = true := by simpa using hjl
      clear hS
      cases al with
      | true =>
        clear hno
        go_wp2
        go_round
        case rel => exact ⟨j + 1, by omega, by go_num⟩
        case measure => simp [intOf]; omega
      | false =>
        have hg5 : g = 65535 := by simpa using hno
        have q1 : ((g : Int) == 65535) = true := by simp; omega
        clear hno hg5
        go_wp2
        go_round
        case rel => exact ⟨j + 1, by omega, by go_num⟩
        case measure => simp [intOf]; omega
    · have j2 : decide ((j : Int) < (n : Int)) = false := by simp; omega
      have j3 : decide (j < n) = false := by simpa using hjl
      go_wp2
      refine bodyPost_ret (v := .tuple #[.agg #[.slice ga n gc, .slice aa n ac, .slice va n vc], .int .i64 0, .int .i64 5]) (by simp [results, Tryd.f72, go_sem]) rfl ?_
      exact ⟨rfl, ((Below.refl _ _).alloc (Nat.le_refl _) _).alloc (by simp) _⟩
end
end Go.Proofs.YtpaecmpiokkdnaaDoor

namespace Go.Proofs.YtpaecmpiokkdnaaDoor
open Go.RowKit Go.Sort Go.Joins
attribute [local go_sem] cell_grow frozen_grow size_grow

/-- what a cell holds -/
def valAt (w : World) (k j : Nat) : Value := (w.cell? ⟨k, j, none⟩).getD undef
/-- all but one block is as it was; that one is a box of a state -/
structure BX (k : Nat) (W w' : World) : Prop where
  os : w'.os = W.os
  tape : w'.tape = W.tape
  output : w'.output = W.output
  size : W.heap.size ≤ w'.heap.size
  block : ∀ j, j < W.heap.size → j ≠ k → w'.heap[j]? = W.heap[j]?
  has : ∃ a b c, w'.heap[k]? = some (.cells #[a, b, c] 35 (0, 0))
theorem BX.drew {k : Nat} {W w' : World} (h : BX k W w') : BX k W w'.drew := ⟨h.os, h.tape, h.output, h.size, h.block, h.has⟩
theorem BX.cell {k b o : Nat} {W w' : World} {v : Value} (h : BX k W w') (c : W.cell? ⟨b, o, none⟩ = some v) (hb : b ≠ k) : w'.cell? ⟨b, o, none⟩ = some v := by
  rw [World.cell?_of_block (w := W) (h.block b (World.block_lt_of_cell? _ _ c) hb)]; exact c
theorem BX.own {k base size n : Nat} {W w' : World} {e : TypeId} {v : Value} {xs : List Value} (h : BX k W w') (ho : W.ownsRow base e size v n xs) (hk : k < base) : w'.ownsRow base e size v n xs :=
  own_same ho fun g hg => h.block g (ho.lt g hg).2 (by have := (ho.lt g hg).1; omega)
theorem BX.oa {k B n : Nat} {W w' : World} {f0 f1 f2 : Nat → Value} {r0 r1 r2 : Value} (h : BX k W w') (ho : OA W B n f0 f1 f2 r0 r1 r2) (hk : k < B) : OA w' B n f0 f1 f2 r0 r1 r2 :=
  ⟨h.own ho.o0 hk, h.own ho.o1 hk, h.own ho.o2 hk, ho.n02⟩
theorem BX.at_ {k : Nat} {W w' : World} (h : BX k W w') : w'.cell? ⟨k, 0, none⟩ = some (valAt w' k 0) ∧ w'.cell? ⟨k, 1, none⟩ = some (valAt w' k 1) ∧ w'.cell? ⟨k, 2, none⟩ = some (valAt w' k 2) ∧ w'.frozen? ⟨k, 0, none⟩ = false ∧ w'.frozen? ⟨k, 1, none⟩ = false ∧ w'.frozen? ⟨k, 2, none⟩ = false := by
  obtain ⟨a, b, c, h⟩ := h.has
  have e0 : w'.cell? ⟨k, 0, none⟩ = some a := by rw [cell_of_block h]; rfl
  have e1 : w'.cell? ⟨k, 1, none⟩ = some b := by rw [cell_of_block h]; rfl
  have e2 : w'.cell? ⟨k, 2, none⟩ = some c := by rw [cell_of_block h]; rfl
  unfold valAt
  rw [e0, e1, e2]
  exact ⟨rfl, rfl, rfl, unfrozen_of_block h 0, unfrozen_of_block h 1, unfrozen_of_block h 2⟩
theorem keepX {k : Nat} {W nxt : World} {C : World → Prop} (hC : Hid (∀ w', BX k W w' → C w')) (h : BX k W nxt) : BX k W nxt ∧ C nxt := ⟨h, hC.out _ h⟩
theorem bx_call {k : Nat} {W cur nxt : World} {C : Prop} (h : BX k W cur ∧ C) (hb : Below cur.heap.size cur nxt) : BX k W nxt := by
  refine ⟨hb.os.trans h.1.os, hb.tape.trans h.1.tape, hb.output.trans h.1.output, Nat.le_trans h.1.size hb.size, fun j hj hk => (hb.block j (Nat.lt_of_lt_of_le hj h.1.size)).trans (h.1.block j hj hk), ?_⟩
  obtain ⟨a, b, c, e⟩ := h.1.has
  exact ⟨a, b, c, (hb.block k (blk_lt e)).trans e⟩
theorem BX.set {k j : Nat} {W cur : World} (h : BX k W cur) (hj : j < 3) (v : Value) : BX k W (cur.setCell ⟨k, j, none⟩ v) := by
  refine ⟨h.os, h.tape, h.output, by simp only [World.size_setCell]; exact h.size, fun i hi hk => (Below.heap_setCell _ _ _ _ hk).trans (h.block i hi hk), ?_⟩
  obtain ⟨a, b, c, e⟩ := h.has
  rcases (by omega : j = 0 ∨ j = 1 ∨ j = 2) with rfl | rfl | rfl
  · exact ⟨v, b, c, by rw [setCell_block e]; rfl⟩
  · exact ⟨a, v, c, by rw [setCell_block e]; rfl⟩
  · exact ⟨a, b, v, by rw [setCell_block e]; rfl⟩
theorem bx_sets {k : Nat} {W cur : World} {C : Prop} (h : BX k W cur ∧ C) (u v x : Value) : BX k W (((cur.setCell ⟨k, 0, none⟩ u).setCell ⟨k, 1, none⟩ v).setCell ⟨k, 2, none⟩ x) :=
  ((h.1.set (by decide) u).set (by decide) v).set (by decide) x
section
variable {st : List Slt} {ga aa va : Option Addr} {gc ac vc : Nat}
set_option maxRecDepth 100000 in
set_option maxHeartbeats 3200000 in
theorem rdrop_err (h : Int) (w : World) (hr : RA w st ga aa va) (hn : st.length ≤ 1024) (he : findE st h ≠ 0) :
    Calls Tryd.prog 71 #[.agg #[.slice ga st.length gc, .slice aa st.length ac, .slice va st.length vc], .int .i64 h] w fun e w' => e = .returned (.tuple #[.agg #[.slice ga st.length gc, .slice aa st.length ac, .slice va st.length vc], .int .i64 0, .int .i64 (findE st h)]) ∧ Below w.heap.size w w' := by
  have bb := (below_box0 w (.cells #[.slice ga st.length gc, .slice aa st.length ac, .slice va st.length vc] 35)).trans ((below_box0 (w.alloc (.cells #[.slice ga st.length gc, .slice aa st.length ac, .slice va st.length vc] 35)) (.cells #[.slice none 0 0, .slice none 0 0, .slice none 0 0] 35)).mono (by simp))
  have HB := Lib.hid bb
  have HR := Lib.hid (hr.below bb)
  have hq := bne0_true he
  clear bb hr he
  go_enter Tryd.func71, Tryd.ntmps71
  go_wp2_with fail
  refine (rfind_ok h _ HR.out hn).mono ?_
  rintro e w1 ⟨rfl, b1⟩
  have k0 : w1.cell? ⟨w.heap.size, 0, none⟩ = some (.slice ga st.length gc) := (b1.cell (p := ⟨w.heap.size, 0, none⟩) (by simp; omega)).trans (by simp [go_sem])
  have k1 : w1.cell? ⟨w.heap.size, 1, none⟩ = some (.slice aa st.length ac) := (b1.cell (p := ⟨w.heap.size, 1, none⟩) (by simp; omega)).trans (by simp [go_sem])
  have k2 : w1.cell? ⟨w.heap.size, 2, none⟩ = some (.slice va st.length vc) := (b1.cell (p := ⟨w.heap.size, 2, none⟩) (by simp; omega)).trans (by simp [go_sem])
  have q0 : w1.cell? ⟨w.heap.size + 1, 0, none⟩ = some (.slice none 0 0) := (b1.cell (p := ⟨w.heap.size + 1, 0, none⟩) (by simp)).trans (by simp [go_sem])
  have q1 : w1.cell? ⟨w.heap.size + 1, 1, none⟩ = some (.slice none 0 0) := (b1.cell (p := ⟨w.heap.size + 1, 1, none⟩) (by simp)).trans (by simp [go_sem])
  have q2 : w1.cell? ⟨w.heap.size + 1, 2, none⟩ = some (.slice none 0 0) := (b1.cell (p := ⟨w.heap.size + 1, 2, none⟩) (by simp)).trans (by simp [go_sem])
  have qz : ∀ j, w1.frozen? ⟨w.heap.size + 1, j, none⟩ = false := fun j => (b1.frozen (p := ⟨w.heap.size + 1, j, none⟩) (by simp)).trans (by simp [go_sem])
  have HB1 := Lib.hid (HB.out.trans (b1.mono (by simp; omega)))
  clear b1
  go_wp2
  refine bodyPost_ret (v := .tuple #[.agg #[.slice ga st.length gc, .slice aa st.length ac, .slice va st.length vc], .int .i64 0, .int .i64 (findE st h)]) (by simp [results, Tryd.f71, go_sem, q0, q1, q2]) rfl ?_
  exact ⟨rfl, ((HB1.out.setCell (p := ⟨w.heap.size + 1, 0, none⟩) (by dsimp only; omega) _).setCell (p := ⟨w.heap.size + 1, 1, none⟩) (by dsimp only; omega) _).setCell (p := ⟨w.heap.size + 1, 2, none⟩) (by dsimp only; omega) _⟩
set_option maxRecDepth 100000 in
set_option maxHeartbeats 6400000 in
theorem rdrop_ok (h : Int) (i : Nat) (w : World) (hr : RA w st ga aa va) (hI : IV st) (hZ : DZ st) (h1 : 1 ≤ st.length) (hn : st.length ≤ 1024) (he : findE st h = 0) (hi : slotI h = i) :
    Calls Tryd.prog 71 #[.agg #[.slice ga st.length gc, .slice aa st.length ac, .slice va st.length vc], .int .i64 h] w fun e w' => ∃ x, e = .returned (.tuple #[x, (st.getD i (0, false, undef)).2.2, .int .i64 0]) ∧
      ROA w' x (st.set i ((st.getD i (0, false, undef)).1, false, .int .i64 0)) ∧ Below w.heap.size w w' := by
  obtain ⟨i', hi', hlt, hal, _⟩ := Int.findE_zero he
  obtain rfl : i' = i := by omega
  have bb := (below_box0 w (.cells #[.slice ga st.length gc, .slice aa st.length ac, .slice va st.length vc] 35)).trans ((below_box0 (w.alloc (.cells #[.slice ga st.length gc, .slice aa st.length ac, .slice va st.length vc] 35)) (.cells #[.slice none 0 0, .slice none 0 0, .slice none 0 0] 35)).mono (by simp))
  have HB := Lib.hid bb
  have HR := Lib.hid (hr.below bb)
  have HF := Lib.hid (findI_at he hi)
  have HE := Lib.hid he
  have HI := Lib.hid hI
  have HZ := Lib.hid hZ
  obtain ⟨old, hold⟩ := hI i' hlt
  have hold' : vF st i' = .int .i64 old := hold
  have hold2 : (st.getD i' (0, false, undef)).2.2 = .int .i64 old := hold
  rw [hold2]
  have hal' : aF st i' = true := hal
  have HO := Lib.hid hold'
  have HAL := Lib.hid hal'
  obtain ⟨n, hnn⟩ : ∃ n, st.length = n := ⟨_, rfl⟩
  have i0 : (0 : Int) ≤ (i' : Int) := by omega
  have i1 : (i' : Int) < (n : Int) := by omega
  have HN := Lib.hid hnn
  have hfd := fun W (hr : RA W st ga aa va) => rfind_ok (gc := gc) (ac := ac) (vc := vc) h W hr hn
  have hcd := fun W (hr : RA W st ga aa va) => copy_st (gc := gc) (ac := ac) (vc := vc) W hr HI.out HZ.out h1 hn
  simp only [hnn] at hfd hcd
  have HFD := Lib.hid hfd
  have HCD := Lib.hid hcd
  clear hfd hcd
  have h1' : 1 ≤ n := by omega
  have hl' : i' < n := by omega
  have HL := Lib.hid hlt
  obtain ⟨vb, vo, hva, cv0⟩ := (hr.below bb).v.at_ hlt
  rw [hold'] at cv0
  clear bb hr he hi hi' hI hZ hold hold' hold2 hal hal' hlt
  rw [hnn] at HB HR cv0 ⊢
  have hvl := World.block_lt_of_cell? _ _ cv0
  simp only [World.size_alloc] at hvl
  have HCV := Lib.hid cv0
  have HVA := Lib.hid hva
  clear hnn cv0 hva
  go_enter Tryd.func71, Tryd.ntmps71
  go_wp2_with fail
  refine (HFD.out _ HR.out).mono ?_
  rintro e w1 ⟨rfl, b1⟩
  rw [HF.out, HE.out]
  have k0 : w1.cell? ⟨w.heap.size, 0, none⟩ = some (.slice ga n gc) := (b1.cell (p := ⟨w.heap.size, 0, none⟩) (by simp; omega)).trans (by simp [go_sem])
  have k1 : w1.cell? ⟨w.heap.size, 1, none⟩ = some (.slice aa n ac) := (b1.cell (p := ⟨w.heap.size, 1, none⟩) (by simp; omega)).trans (by simp [go_sem])
  have k2 : w1.cell? ⟨w.heap.size, 2, none⟩ = some (.slice va n vc) := (b1.cell (p := ⟨w.heap.size, 2, none⟩) (by simp; omega)).trans (by simp [go_sem])
  have hx1 : w1.heap[w.heap.size + 1]? = some (.cells #[.slice none 0 0, .slice none 0 0, .slice none 0 0] 35 (0, 0)) := (b1.block _ (by simp)).trans (by have := heap_alloc_new (w.alloc (.cells #[.slice ga n gc, .slice aa n ac, .slice va n vc] 35)) (.cells #[.slice none 0 0, .slice none 0 0, .slice none 0 0] 35); rwa [World.size_alloc] at this)
  have hx0 : w1.heap[w.heap.size]? = some (.cells #[.slice ga n gc, .slice aa n ac, .slice va n vc] 35 (0, 0)) := (b1.block _ (by simp; omega)).trans ((Below.heap_alloc _ _ _ (by simp)).trans (heap_alloc_new w _))
  have HB1 := Lib.hid (HB.out.trans (b1.mono (by simp; omega)))
  have HR1 := Lib.hid (HR.out.below b1)
  have HX1 := Lib.hid hx1
  have HX0 := Lib.hid hx0
  have hcv1 := (b1.cell (p := ⟨vb, vo + i', none⟩) (by simp; omega)).trans HCV.out
  have HCV1 := Lib.hid hcv1
  clear b1 hx1 hx0 hcv1
  go_wp2_with fail
  refine (HCD.out w1 HR1.out).mono ?_
  rintro e w2 ⟨a0, q0, a1, q1, a2, q2, rfl, o2, b2⟩
  have HX2 := Lib.hid ((b2.block _ (blk_lt HX1.out)).trans HX1.out)
  have HX3 := Lib.hid ((b2.block _ (blk_lt HX0.out)).trans HX0.out)
  have HB2 := Lib.hid (HB1.out.trans (b2.mono HB1.out.size))
  have hcv2 := (b2.cell (p := ⟨vb, vo + i', none⟩) (World.block_lt_of_cell? _ _ HCV1.out)).trans HCV1.out
  obtain ⟨g, hg, hgB, hgl, hgz, hgc⟩ := o2.blk1 (by omega)
  subst hg
  have hs1 := blk_lt HX1.out
  have hgc' := hgc i' hl'
  dsimp only [zB] at hgc'
  rw [HAL.out] at hgc'
  have gz := hgz i'
  have ho4 := o2.set1 hl' (.bool false)
  have hs2 : w.heap.size + 1 < w2.heap.size := blk_lt HX2.out
  have ne1 : g ≠ w2.heap.size := by omega
  have ne3 : w2.heap.size ≠ g := by omega
  have hcl := World.block_lt_of_cell? _ _ HCV1.out
  dsimp only at hcl
  have HHG := Lib.hid hgB
  clear hgc hgz
  go_wp2
  obtain ⟨W, hW⟩ : ∃ W, (w2.setCell ⟨g, i', none⟩ (.bool false)).alloc (.cells #[.slice a0 n q0, .slice (some ⟨g, 0, none⟩) n q1, .slice a2 n q2] 35) = W := ⟨_, rfl⟩
  have hbx : W.heap[w2.heap.size]? = some (.cells #[.slice a0 n q0, .slice (some ⟨g, 0, none⟩) n q1, .slice a2 n q2] 35 (0, 0)) := by rw [← hW]; have := heap_alloc_new (w2.setCell ⟨g, i', none⟩ (.bool false)) (.cells #[.slice a0 n q0, .slice (some ⟨g, 0, none⟩) n q1, .slice a2 n q2] 35); rwa [World.size_setCell] at this
  have hbs : W.heap[w.heap.size]? = some (.cells #[.slice ga n gc, .slice aa n ac, .slice va n vc] 35 (0, 0)) := by rw [← hW, Below.heap_alloc _ _ _ (by rw [World.size_setCell]; omega), Below.heap_setCell _ _ _ _ (by dsimp only; omega)]; exact HX3.out
  have hbr : W.heap[w.heap.size + 1]? = some (.cells #[.slice none 0 0, .slice none 0 0, .slice none 0 0] 35 (0, 0)) := by rw [← hW, Below.heap_alloc _ _ _ (by rw [World.size_setCell]; omega), Below.heap_setCell _ _ _ _ (by dsimp only; omega)]; exact HX2.out
  have hcv3 : W.cell? ⟨vb, vo + i', none⟩ = some (.int .i64 old) := by
    have hbl : W.heap[vb]? = w2.heap[vb]? := by rw [← hW, Below.heap_alloc _ _ _ (by rw [World.size_setCell]; omega)]; exact Below.heap_setCell _ _ _ _ (by dsimp only; omega)
    rw [World.cell?_of_block (w := w2) hbl]; exact hcv2
  have hkW : Below w.heap.size w W := by rw [← hW]; exact (HB2.out.setCell (p := ⟨g, i', none⟩) (by dsimp only; have := HB1.out.size; omega) _).alloc (by rw [World.size_setCell]; exact HB2.out.size) _
  have hoW : OA W (w1.heap.size + 2) n (zI (gF st)) (fun j => if j = i' then Value.bool false else zB (aF st) j) (vF st) (.slice a0 n q0) (.slice (some ⟨g, 0, none⟩) n q1) (.slice a2 n q2) := by rw [← hW]; exact ho4.below (below_box0 _ _)
  rw [hW]
  have hsW := blk_lt hbx
  have t0 : W.cell? ⟨w2.heap.size, 0, none⟩ = some (.slice a0 n q0) := by rw [cell_of_block hbx]; rfl
  have t1 : W.cell? ⟨w2.heap.size, 1, none⟩ = some (.slice (some ⟨g, 0, none⟩) n q1) := by rw [cell_of_block hbx]; rfl
  have t2 : W.cell? ⟨w2.heap.size, 2, none⟩ = some (.slice a2 n q2) := by rw [cell_of_block hbx]; rfl
  have s2 : W.cell? ⟨w.heap.size, 2, none⟩ = some (.slice va n vc) := by rw [cell_of_block hbs]; rfl
  rw [HVA.out] at s2
  have HBR := Lib.hid hbr
  have HKW := Lib.hid hkW
  obtain ⟨V, hV⟩ : ∃ V : Nat → Value, ∀ j, V j = if j < st.length then vF st j else .int .i64 0 := ⟨_, fun _ => rfl⟩
  obtain ⟨A', hA'⟩ : ∃ A' : Nat → Bool, ∀ j, A' j = if j = i' then false else aF st j := ⟨_, fun _ => rfl⟩
  have hkB : w.heap.size + 1 < w1.heap.size + 2 := by omega
  have hcp := fun W' (hx : BX (w.heap.size + 1) W W') => copy_ok (gc := q0) (ac := q1) (vc := q2) W' (G := gF st) (A := A') (V := V) (SlF.of_row (hx.oa hoW hkB).o0) ((SlF.of_row (hx.oa hoW hkB).o1).congr (fun j hj => by dsimp only [zB]; rw [hA']; by_cases e : j = i' <;> simp [e])) ((SlF.of_row (hx.oa hoW hkB).o2).congr (fun j hj => by rw [hV, if_pos (by rw [HN.out]; exact hj)])) (vF_all HI.out V hV) h1' (by have := HN.out; omega)
  have HCP := Lib.hid hcp
  have HVV := Lib.hid hV
  have HAA := Lib.hid hA'
  clear hW hbx hbs hbr hkW hoW ho4 o2 b2 hcv2 hgc' gz hcp hV hA'
  have hvk : vb ≠ w.heap.size + 1 := fun e => by
    subst e
    have := cell_of_block HBR.out (i := vo + i')
    rw [hcv3] at this
    rcases hvo : vo + i' with _ | _ | _ | m <;> rw [hvo] at this <;> simp at this
  have hX0 : BX (w.heap.size + 1) W W := ⟨rfl, rfl, rfl, Nat.le_refl _, fun _ _ _ => rfl, ⟨_, _, _, HBR.out⟩⟩
  have HX0 := Lib.hid hX0
  have HC : Hid (∀ w', BX (w.heap.size + 1) W w' → w'.cell? ⟨w2.heap.size, 0, none⟩ = some (.slice a0 n q0) ∧ w'.cell? ⟨w2.heap.size, 1, none⟩ = some (.slice (some ⟨g, 0, none⟩) n q1) ∧ w'.cell? ⟨w2.heap.size, 2, none⟩ = some (.slice a2 n q2) ∧ w'.cell? ⟨w.heap.size, 2, none⟩ = some (.slice (some ⟨vb, vo, none⟩) n vc) ∧ w'.cell? ⟨vb, vo + i', none⟩ = some (.int .i64 old) ∧ w'.cell? ⟨w.heap.size + 1, 0, none⟩ = some (valAt w' (w.heap.size + 1) 0) ∧ w'.cell? ⟨w.heap.size + 1, 1, none⟩ = some (valAt w' (w.heap.size + 1) 1) ∧ w'.cell? ⟨w.heap.size + 1, 2, none⟩ = some (valAt w' (w.heap.size + 1) 2) ∧ w'.frozen? ⟨w.heap.size + 1, 0, none⟩ = false ∧ w'.frozen? ⟨w.heap.size + 1, 1, none⟩ = false ∧ w'.frozen? ⟨w.heap.size + 1, 2, none⟩ = false) :=
    Lib.hid (fun w' h => ⟨h.cell t0 (by omega), h.cell t1 (by omega), h.cell t2 (by omega), h.cell s2 (by omega), h.cell hcv3 hvk, h.at_⟩)
  clear hX0
  go_region_held3 (fun w' => BX (w.heap.size + 1) W w' ∧ w'.cell? ⟨w2.heap.size, 0, none⟩ = some (.slice a0 n q0) ∧ w'.cell? ⟨w2.heap.size, 1, none⟩ = some (.slice (some ⟨g, 0, none⟩) n q1) ∧ w'.cell? ⟨w2.heap.size, 2, none⟩ = some (.slice a2 n q2) ∧ w'.cell? ⟨w.heap.size, 2, none⟩ = some (.slice (some ⟨vb, vo, none⟩) n vc) ∧ w'.cell? ⟨vb, vo + i', none⟩ = some (.int .i64 old) ∧ w'.cell? ⟨w.heap.size + 1, 0, none⟩ = some (valAt w' (w.heap.size + 1) 0) ∧ w'.cell? ⟨w.heap.size + 1, 1, none⟩ = some (valAt w' (w.heap.size + 1) 1) ∧ w'.cell? ⟨w.heap.size + 1, 2, none⟩ = some (valAt w' (w.heap.size + 1) 2) ∧ w'.frozen? ⟨w.heap.size + 1, 0, none⟩ = false ∧ w'.frozen? ⟨w.heap.size + 1, 1, none⟩ = false ∧ w'.frozen? ⟨w.heap.size + 1, 2, none⟩ = false)
    ((refine keepX HC ?_; first | exact HX0.out.drew | exact And.left (by assumption) | exact bx_call (by assumption) (by assumption) | exact bx_sets (by assumption) _ _ _))
    ((go_at_call 56; (refine (HCP.out _ (And.left (by assumption))).mono ?_); rintro e w4 ⟨y0, p0, y1, p1, y2, p2, rfl, o5, b5⟩; have g4 : BX (w.heap.size + 1) W w4 := bx_call (by assumption) b5))
  rename_i hheld
  clear hheld
  obtain ⟨z0, z1, z2, hx4⟩ := g4.has
  have e0 : w4.cell? ⟨w.heap.size + 1, 0, none⟩ = some z0 := by rw [cell_of_block hx4]; rfl
  have e1 : w4.cell? ⟨w.heap.size + 1, 1, none⟩ = some z1 := by rw [cell_of_block hx4]; rfl
  have e2 : w4.cell? ⟨w.heap.size + 1, 2, none⟩ = some z2 := by rw [cell_of_block hx4]; rfl
  have HO5 := Lib.hid o5
  have HB5 := Lib.hid b5
  clear o5 b5 g4 hx4
  go_wp2
  refine bodyPost_ret (v := .tuple #[.agg #[.slice y0 n p0, .slice y1 n p1, .slice y2 n p2], .int .i64 old, .int .i64 0]) (by simp [results, Tryd.f71, go_sem, e0, e1, e2]) rfl ?_
  have hWs : W.drew.heap.size = W.heap.size := rfl
  have hk := (((HKW.out.trans ((Below.refl w.heap.size W).drew)).trans (HB5.out.mono (by have := HKW.out.size; omega))).setCell (p := ⟨w.heap.size + 1, 0, none⟩) (by dsimp only; omega) (.slice y0 n p0)).setCell (p := ⟨w.heap.size + 1, 1, none⟩) (by dsimp only; omega) (.slice y1 n p1) |>.setCell (p := ⟨w.heap.size + 1, 2, none⟩) (by dsimp only; omega) (.slice y2 n p2)
  refine ⟨_, rfl, ?_, hk⟩
  have o6 := ((HO5.out.low (k := w.heap.size + 1) (j := 0) (by omega) (.slice y0 n p0)).low (k := w.heap.size + 1) (j := 1) (by omega) (.slice y1 n p1)).low (k := w.heap.size + 1) (j := 2) (by omega) (.slice y2 n p2)
  obtain rfl := HN.out
  have hlt := HL.out
  refine OA.roa (by simp) (o6.congr (fun j hj => ?_) (fun j hj => ?_) (fun j hj => ?_))
  · unfold zI; rw [gF_set hlt]; by_cases e : j = i' <;> simp [e, gF]
  · unfold zB; rw [aF_set hlt, HAA.out]
  · rw [vF_set hlt]
    by_cases e : j = i'
    · rw [if_pos e]; unfold cV; rw [HAA.out, if_pos e]; rfl
    · rw [if_neg e, ← cV_vF HZ.out hj]
      unfold cV
      rw [HAA.out, if_neg e, HVV.out, if_pos hj]
end
end Go.Proofs.YtpaecmpiokkdnaaDoor

namespace Go.Proofs.YtpaecmpiokkdnaaDoor
open Go.RowKit Go.Sort Go.Joins
attribute [local go_sem] cell_grow frozen_grow size_grow

theorem rdyF_yes {st : List Slt} {j : Nat} (h : rdyF st j = true) : j < st.length ∧ (st.getD j (0, false, undef)).2.1 = false ∧ (st.getD j (0, false, undef)).1 < 65535 := Int.rdyF_at h
theorem own_ne2 {w : World} {B n k0 k1 g0 g1 : Nat} {e0 e1 : TypeId} {xs ys : List Value} (h : w.ownsRow B e0 1 (.slice (some ⟨g0, 0, none⟩) n k0) n xs) (h' : w.ownsRow B e1 1 (.slice (some ⟨g1, 0, none⟩) n k1) n ys) (hne : e0 ≠ e1) : g0 ≠ g1 := fun e => by
  rcases h'.2 with ⟨h1, _⟩ | ⟨g', cap', cur, e1, _, e3, _⟩
  · cases h1
  · simp only [Value.slice.injEq, Option.some.injEq, Addr.mk.injEq, and_true, true_and] at e1
    obtain ⟨rfl, rfl⟩ := e1
    exact own_ne h e3 hne (by rw [e]; rfl)
theorem OA.ne01 {w : World} {B n k0 k1 g0 g1 : Nat} {f0 f1 f2 : Nat → Value} {r2 : Value} (h : OA w B n f0 f1 f2 (.slice (some ⟨g0, 0, none⟩) n k0) (.slice (some ⟨g1, 0, none⟩) n k1) r2) : g0 ≠ g1 := own_ne2 h.o0 h.o1 (by decide)
theorem OA.ne21 {w : World} {B n k0 k1 g0 g1 : Nat} {f0 f1 f2 : Nat → Value} {r0 : Value} (h : OA w B n f0 f1 f2 r0 (.slice (some ⟨g1, 0, none⟩) n k1) (.slice (some ⟨g0, 0, none⟩) n k0)) : g0 ≠ g1 := own_ne2 h.o2 h.o1 (by decide)
section
variable {st : List Slt} {ga aa va : Option Addr} {gc ac vc : Nat}
set_option maxRecDepth 100000 in
set_option maxHeartbeats 6400000 in
theorem rput_ok (v : Int) (i : Nat) (w : World) (hr : RA w st ga aa va) (hI : IV st) (hZ : DZ st) (h1 : 1 ≤ st.length) (hn : st.length ≤ 1024) (hg : ∀ j, j < st.length → (st.getD j (0, false, undef)).1 ≤ 65535) (hrd : rdyF st i = true) (hlo : ∀ j, j < i → rdyF st j = false) :
    Calls Tryd.prog 72 #[.agg #[.slice ga st.length gc, .slice aa st.length ac, .slice va st.length vc], .int .i64 v] w fun e w' => ∃ x, e = .returned (.tuple #[x, .int .i64 ((((st.getD i (0, false, undef)).1 : Int) + 1) * 65536 + i), .int .i64 0]) ∧
      ROA w' x (st.set i ((st.getD i (0, false, undef)).1 + 1, true, .int .i64 v)) ∧ Below w.heap.size w w' := by
  obtain ⟨hlt, hal, hg5⟩ := rdyF_yes hrd
  have bb := (below_box0 w (.cells #[.slice ga st.length gc, .slice aa st.length ac, .slice va st.length vc] 35)).trans ((below_box0 (w.alloc (.cells #[.slice ga st.length gc, .slice aa st.length ac, .slice va st.length vc] 35)) (.cells #[.slice none 0 0, .slice none 0 0, .slice none 0 0] 35)).mono (by simp))
  have HB := Lib.hid bb
  have HR := Lib.hid (hr.below bb)
  have HG := Lib.hid hg
  have HI := Lib.hid hI
  have HZ := Lib.hid hZ
  have HLO := Lib.hid hlo
  obtain ⟨old, hold⟩ := hI i hlt
  have hold' : vF st i = .int .i64 old := hold
  obtain ⟨g, hgg⟩ : ∃ g, (st.getD i (0, false, undef)).1 = g := ⟨_, rfl⟩
  rw [hgg] at hg5 ⊢
  have hgF : gF st i = (g : Int) := by unfold gF; rw [hgg]
  have haF : aF st i = false := hal
  obtain ⟨n, hnn⟩ : ∃ n, st.length = n := ⟨_, rfl⟩
  have HN := Lib.hid hnn
  have hcd := fun W (hr : RA W st ga aa va) => copy_st (gc := gc) (ac := ac) (vc := vc) W hr HI.out HZ.out h1 hn
  simp only [hnn] at hcd
  have HCD := Lib.hid hcd
  have h1' : 1 ≤ n := by omega
  have hl' : i < n := by omega
  have HL := Lib.hid hlt
  have HOV := Lib.hid hold'
  have HGF := Lib.hid hgF
  have HAF := Lib.hid haF
  have i0 : (0 : Int) ≤ (i : Int) := by omega
  have i1 : (i : Int) < (n : Int) := by omega
  have g0' : (0 : Int) ≤ (g : Int) := by omega
  have g1' : (g : Int) < 65535 := by omega
  clear bb hr hg hI hZ hlo hold hold' hgg hgF haF hcd hal hrd hlt
  rw [hnn] at HB HR hn ⊢
  clear hnn
  go_enter Tryd.func72, Tryd.ntmps72
  go_wp2
  go_loop [7] (fun x => ∃ j : Nat, j ≤ i ∧ x = .int .i64 j) (fun x => n - (intOf x).toNat)
  case atStart => exact ⟨0, Nat.zero_le _, rfl⟩
  case round =>
    obtain ⟨j, hj, rfl⟩ := hrel
    have hjl : j < n := by omega
    have hj' : j < st.length := by rw [HN.out]; exact hjl
    obtain ⟨b0, o0, h0, c0⟩ := HR.out.g.at_ hj'
    obtain ⟨b1, o1, h1, c1⟩ := HR.out.a.at_ hj'
    subst h0 h1
    dsimp only [zI, zB] at c0 c1
    have j0 : (0 : Int) ≤ (j : Int) := by omega
    have j1 : (j : Int) < (n : Int) := by omega
    have j2 : decide ((j : Int) < (n : Int)) = true := by simp; omega
    have j3 : decide (j < n) = true := by simpa using hjl
    by_cases hji : j < i
    · have hno := rdyF_no hj' (HLO.out j hji) (HG.out j hj')
      obtain ⟨⟨gj, al, vl⟩, hS⟩ : ∃ s, st.getD j (0, false, undef) = s := ⟨_, rfl⟩
      dsimp only [gF, aF] at c0 c1
      rw [hS] at c0 c1 hno
      dsimp only at c0 c1 hno
      clear hS
      cases al with
      | true =>
        clear hno
        go_wp2
        go_round
        case rel => exact ⟨j + 1, by omega, by go_num⟩
        case measure => simp [intOf]; omega
      | false =>
        have hg5' : gj = 65535 := by simpa using hno
        have q1 : ((gj : Int) == 65535) = true := by simp; omega
        clear hno hg5'
        go_wp2
        go_round
        case rel => exact ⟨j + 1, by omega, by go_num⟩
        case measure => simp [intOf]; omega
    · obtain rfl : i = j := by omega
      rw [HGF.out] at c0
      rw [HAF.out] at c1
      have q1 : ((g : Int) == 65535) = false := by simp; omega
      clear hji
      go_wp2_with fail
      refine (HCD.out _ HR.out).mono ?_
      rintro e w2 ⟨a0, q0, a1, q1', a2, q2, rfl, o2, b2⟩
      have hx1 : ((w.alloc (.cells #[.slice (some ⟨b0, o0, none⟩) n gc, .slice (some ⟨b1, o1, none⟩) n ac, .slice va n vc] 35)).alloc (.cells #[.slice none 0 0, .slice none 0 0, .slice none 0 0] 35)).heap[w.heap.size + 1]? = some (.cells #[.slice none 0 0, .slice none 0 0, .slice none 0 0] 35 (0, 0)) := by have := heap_alloc_new (w.alloc (.cells #[.slice (some ⟨b0, o0, none⟩) n gc, .slice (some ⟨b1, o1, none⟩) n ac, .slice va n vc] 35)) (.cells #[.slice none 0 0, .slice none 0 0, .slice none 0 0] 35); rwa [World.size_alloc] at this
      have HX2 := Lib.hid ((b2.block _ (by simp)).trans hx1)
      have HB2 := Lib.hid (HB.out.trans (b2.mono (by simp; omega)))
      obtain ⟨y0, hg0, hgB0, hgl0, hgz0, hgc0⟩ := o2.blk0 (by omega)
      obtain ⟨y1, hg1, hgB1, hgl1, hgz1, hgc1⟩ := o2.blk1 (by omega)
      obtain ⟨y2, hg2, hgB2, hgl2, hgz2, hgc2⟩ := o2.blk2 (by omega)
      subst hg0 hg1 hg2
      simp only [World.size_alloc] at hgB0 hgB1 hgB2
      have d0 := hgc0 i hl'
      have d1 := hgc1 i hl'
      have d2 := hgc2 i hl'
      dsimp only [zI, zB] at d0 d1 d2
      rw [HGF.out] at d0
      rw [HAF.out] at d1
      rw [HOV.out] at d2
      have z0 := hgz0 i
      have z1 := hgz1 i
      have z2 := hgz2 i
      have hs2 : w.heap.size + 1 < w2.heap.size := blk_lt HX2.out
      have n02 : y0 ≠ y2 := fun e => o2.n02 y0 rfl (by rw [e]; rfl)
      have n01 := o2.ne01
      have n12 := o2.ne21
      have HO2 := Lib.hid o2
      clear b2 o2 hgc0 hgc1 hgc2 hgz0 hgz1 hgz2 hx1 c0 c1
      go_wp2
      obtain ⟨W, hW⟩ : ∃ W, (w2.setCell ⟨y0, i, none⟩ (.int .i64 ((g : Int) + 1))).alloc (.cells #[.slice (some ⟨y0, 0, none⟩) n q0, .slice (some ⟨y1, 0, none⟩) n q1', .slice (some ⟨y2, 0, none⟩) n q2] 35) = W := ⟨_, rfl⟩
      have hbx : W.heap[w2.heap.size]? = some (.cells #[.slice (some ⟨y0, 0, none⟩) n q0, .slice (some ⟨y1, 0, none⟩) n q1', .slice (some ⟨y2, 0, none⟩) n q2] 35 (0, 0)) := by rw [← hW]; have := heap_alloc_new (w2.setCell ⟨y0, i, none⟩ (.int .i64 ((g : Int) + 1))) (.cells #[.slice (some ⟨y0, 0, none⟩) n q0, .slice (some ⟨y1, 0, none⟩) n q1', .slice (some ⟨y2, 0, none⟩) n q2] 35); rwa [World.size_setCell] at this
      have hbr : W.heap[w.heap.size + 1]? = some (.cells #[.slice none 0 0, .slice none 0 0, .slice none 0 0] 35 (0, 0)) := by rw [← hW, Below.heap_alloc _ _ _ (by rw [World.size_setCell]; omega), Below.heap_setCell _ _ _ _ (by dsimp only; omega)]; exact HX2.out
      have hkW : Below w.heap.size w W := by rw [← hW]; exact (HB2.out.setCell (p := ⟨y0, i, none⟩) (by dsimp only; omega) _).alloc (by rw [World.size_setCell]; exact HB2.out.size) _
      obtain ⟨B, hB⟩ : ∃ B, ((w.alloc (.cells #[.slice (some ⟨b0, o0, none⟩) n gc, .slice (some ⟨b1, o1, none⟩) n ac, .slice va n vc] 35)).alloc (.cells #[.slice none 0 0, .slice none 0 0, .slice none 0 0] 35)).heap.size + 2 = B := ⟨_, rfl⟩
      have hBw : w.heap.size + 1 < B := by rw [← hB]; simp
      have hoW : OA W B n (fun j => if j = i then Value.int .i64 ((g : Int) + 1) else zI (gF st) j) (zB (aF st)) (vF st) (.slice (some ⟨y0, 0, none⟩) n q0) (.slice (some ⟨y1, 0, none⟩) n q1') (.slice (some ⟨y2, 0, none⟩) n q2) := by rw [← hW, ← hB]; exact (HO2.out.set0 hl' _).below (below_box0 _ _)
      rw [hW]
      have hsW := blk_lt hbx
      have t0 : W.cell? ⟨w2.heap.size, 0, none⟩ = some (.slice (some ⟨y0, 0, none⟩) n q0) := by rw [cell_of_block hbx]; rfl
      have t1 : W.cell? ⟨w2.heap.size, 1, none⟩ = some (.slice (some ⟨y1, 0, none⟩) n q1') := by rw [cell_of_block hbx]; rfl
      have t2 : W.cell? ⟨w2.heap.size, 2, none⟩ = some (.slice (some ⟨y2, 0, none⟩) n q2) := by rw [cell_of_block hbx]; rfl
      obtain ⟨_, hq1, _, _, pz1, pc1⟩ := hoW.blk1 (by omega)
      obtain ⟨_, hq2, _, _, pz2, pc2⟩ := hoW.blk2 (by omega)
      cases hq1
      cases hq2
      have pz1 := pz1 i
      have pz2 := pz2 i
      have r1 := pc1 i hl'
      have r2 := pc2 i hl'
      dsimp only [zB] at r1
      rw [HAF.out] at r1
      rw [HOV.out] at r2
      have HBX := Lib.hid hbx
      have HBR := Lib.hid hbr
      have HKW := Lib.hid hkW
      have HOW := Lib.hid hoW
      clear hW hbx hbr hkW hoW hB pc1 pc2 d0 d1 d2 z0 z1 z2
      go_region
      go_wp2
      obtain ⟨W3, hW3⟩ : ∃ W3, ((W.setCell ⟨y1, i, none⟩ (.bool true)).setCell ⟨y2, i, none⟩ (.int .i64 v)).drew = W3 := ⟨_, rfl⟩
      have hbx3 : W3.heap[w2.heap.size]? = some (.cells #[.slice (some ⟨y0, 0, none⟩) n q0, .slice (some ⟨y1, 0, none⟩) n q1', .slice (some ⟨y2, 0, none⟩) n q2] 35 (0, 0)) := by
        rw [← hW3]
        exact (Below.heap_setCell _ _ _ _ (by dsimp only; omega)).trans ((Below.heap_setCell _ _ _ _ (by dsimp only; omega)).trans HBX.out)
      have hbr3 : W3.heap[w.heap.size + 1]? = some (.cells #[.slice none 0 0, .slice none 0 0, .slice none 0 0] 35 (0, 0)) := by
        rw [← hW3]
        exact (Below.heap_setCell _ _ _ _ (by dsimp only; omega)).trans ((Below.heap_setCell _ _ _ _ (by dsimp only; omega)).trans HBR.out)
      have hkW3 : Below w.heap.size w W3 := by rw [← hW3]; exact ((HKW.out.setCell (p := ⟨y1, i, none⟩) (by dsimp only; omega) _).setCell (p := ⟨y2, i, none⟩) (by dsimp only; omega) _).drew
      have hoW3 : OA W3 B n (fun j => if j = i then Value.int .i64 ((g : Int) + 1) else zI (gF st) j) (fun j => if j = i then Value.bool true else zB (aF st) j) (fun j => if j = i then Value.int .i64 v else vF st j) (.slice (some ⟨y0, 0, none⟩) n q0) (.slice (some ⟨y1, 0, none⟩) n q1') (.slice (some ⟨y2, 0, none⟩) n q2) := by rw [← hW3]; exact ((HOW.out.set1 hl' _).set2 hl' _).below (Below.refl _ _).drew
      rw [hW3]
      obtain ⟨_, hq0, _, _, pz0, pc0⟩ := hoW3.blk0 (by omega)
      cases hq0
      have r0 := pc0 i hl'
      rw [if_pos rfl] at r0
      have x0 : W3.cell? ⟨w2.heap.size, 0, none⟩ = some (.slice (some ⟨y0, 0, none⟩) n q0) := by rw [cell_of_block hbx3]; rfl
      have x1 : W3.cell? ⟨w2.heap.size, 1, none⟩ = some (.slice (some ⟨y1, 0, none⟩) n q1') := by rw [cell_of_block hbx3]; rfl
      have x2 : W3.cell? ⟨w2.heap.size, 2, none⟩ = some (.slice (some ⟨y2, 0, none⟩) n q2) := by rw [cell_of_block hbx3]; rfl
      have s0 : W3.cell? ⟨w.heap.size + 1, 0, none⟩ = some (.slice none 0 0) := by rw [cell_of_block hbr3]; rfl
      have s1 : W3.cell? ⟨w.heap.size + 1, 1, none⟩ = some (.slice none 0 0) := by rw [cell_of_block hbr3]; rfl
      have s2 : W3.cell? ⟨w.heap.size + 1, 2, none⟩ = some (.slice none 0 0) := by rw [cell_of_block hbr3]; rfl
      have sz : ∀ j, W3.frozen? ⟨w.heap.size + 1, j, none⟩ = false := fun j => unfrozen_of_block hbr3 j
      have HKW3 := Lib.hid hkW3
      have HOW3 := Lib.hid hoW3
      have wr1 : IntKind.i64.wrap (65536 * ((g : Int) + 1)) = 65536 * ((g : Int) + 1) := IntWalk.i64_in _ (by omega)
      have wr2 : IntKind.i64.wrap (65536 * ((g : Int) + 1) + (i : Int)) = 65536 * ((g : Int) + 1) + (i : Int) := IntWalk.i64_in _ (by omega)
      clear hW3 hbx3 hbr3 hkW3 hoW3 pc0 pz0 t0 t1 t2 r1 r2 pz1 pz2
      go_region
      go_wp2
      refine bodyPost_ret (v := .tuple #[.agg #[.slice (some ⟨y0, 0, none⟩) n q0, .slice (some ⟨y1, 0, none⟩) n q1', .slice (some ⟨y2, 0, none⟩) n q2], .int .i64 (65536 * ((g : Int) + 1) + i), .int .i64 0]) (by simp [results, Tryd.f72, go_sem, s0, s1, s2]) rfl ?_
      have hk := (((HKW3.out.setCell (p := ⟨w.heap.size + 1, 0, none⟩) (by dsimp only; omega) (.slice (some ⟨y0, 0, none⟩) n q0)).setCell (p := ⟨w.heap.size + 1, 1, none⟩) (by dsimp only; omega) (.slice (some ⟨y1, 0, none⟩) n q1')).setCell (p := ⟨w.heap.size + 1, 2, none⟩) (by dsimp only; omega) (.slice (some ⟨y2, 0, none⟩) n q2)).drew
      refine ⟨_, by rw [Int.mul_comm 65536 ((g : Int) + 1)], ?_, hk⟩
      have o6 := (((HOW3.out.low (k := w.heap.size + 1) (j := 0) hBw (.slice (some ⟨y0, 0, none⟩) n q0)).low (k := w.heap.size + 1) (j := 1) hBw (.slice (some ⟨y1, 0, none⟩) n q1')).low (k := w.heap.size + 1) (j := 2) hBw (.slice (some ⟨y2, 0, none⟩) n q2)).below (Below.refl _ _).drew
      obtain rfl := HN.out
      have hlt := HL.out
      refine OA.roa (by simp) (o6.congr (fun j hj => ?_) (fun j hj => ?_) (fun j hj => ?_))
      · unfold zI; rw [gF_set hlt]; by_cases e : j = i <;> simp [e]
      · unfold zB; rw [aF_set hlt]; by_cases e : j = i <;> simp [e]
      · rw [vF_set hlt]
end
end Go.Proofs.YtpaecmpiokkdnaaDoor

namespace Go.Proofs.YtpaecmpiokkdnaaDoor
open Go.RowKit Go.Sort Go.Joins
attribute [local go_sem] cell_grow frozen_grow size_grow

theorem hndL_yes {st : List Slt} {k : Nat} (h : (st.getD k (0, false, undef)).2.1 = true) : hndL st (alvL st (k + 1)) = hndL st (alvL st k) ++ [.int .i64 (hndI st k)] := by rw [alvL_yes h]; simp [hndL]
theorem hndL_no {st : List Slt} {k : Nat} (h : (st.getD k (0, false, undef)).2.1 = false) : hndL st (alvL st (k + 1)) = hndL st (alvL st k) := by rw [alvL_no h]
theorem alvL_le (st : List Slt) (k : Nat) : (alvL st k).length ≤ k := by
  unfold alvL
  exact Nat.le_trans (List.length_filter_le _ _) (by simp)
section
variable {st : List Slt} {ga aa va : Option Addr} {gc ac vc : Nat}
set_option maxRecDepth 100000 in
set_option maxHeartbeats 3200000 in
theorem rall_ok (w : World) (hr : RA w st ga aa va) (hn : st.length ≤ 1024) (hg : ∀ j, j < st.length → (st.getD j (0, false, undef)).1 ≤ 65535) :
    Calls Tryd.prog 50 #[.agg #[.slice ga st.length gc, .slice aa st.length ac, .slice va st.length vc]] w fun e w' => ∃ a k, e = .returned (.slice a (alvL st st.length).length k) ∧
      w'.ownsRow (w.heap.size + 1) 2 1 (.slice a (alvL st st.length).length k) (alvL st st.length).length (hndL st (alvL st st.length)) ∧ Below w.heap.size w w' := by
  obtain ⟨i0, hi, hz0, hz1, hz2⟩ := info_parts info_i64
  have bb := below_box0 w (.cells #[.slice ga st.length gc, .slice aa st.length ac, .slice va st.length vc] 35)
  have HB := Lib.hid bb
  have HR := Lib.hid (hr.below bb)
  have HG := Lib.hid hg
  obtain ⟨n, hnn⟩ : ∃ n, st.length = n := ⟨_, rfl⟩
  have HN := Lib.hid hnn
  have hbx := heap_alloc_new w (.cells #[.slice ga st.length gc, .slice aa st.length ac, .slice va st.length vc] 35)
  rw [hnn] at hn hbx HB HR ⊢
  have HBX := Lib.hid hbx
  clear bb hr hnn hg hbx
  go_enter Tryd.func50, Tryd.ntmps50
  go_wp2
  generalize hW0 : w.alloc (.cells #[.slice ga n gc, .slice aa n ac, .slice va n vc] 35) = W0
  rw [hW0] at HB HR HBX
  have HZ0 : Hid (W0.heap.size = w.heap.size + 1) := Lib.hid (by rw [← hW0]; simp)
  clear hW0
  go_loopw [3, 4] (fun s x wr => ∃ (k m : Nat) (a : Option Addr) (c : Nat), k ≤ n ∧ x = .int .i64 k ∧ s = .slice a m c ∧ Hid ((alvL st k).length = m) ∧ Hid (wr.ownsRow (w.heap.size + 1) 2 1 (.slice a m c) m (hndL st (alvL st k))) ∧ Hid (Below W0.heap.size W0 wr)) (fun _ x _ => n - (intOf x).toNat)
  case atStart => exact ⟨0, 0, none, 0, Nat.zero_le _, rfl, rfl, Lib.hid rfl, Lib.hid (World.ownsRow_nil _ _ _ _), Lib.hid (Below.refl _ _)⟩
  case round =>
    obtain ⟨k, m, a, c, hk, rfl, rfl, HM, HO, HK⟩ := hrel
    have hbx := (HK.out.block _ (blk_lt HBX.out)).trans HBX.out
    have x0 : wr.cell? ⟨w.heap.size, 0, none⟩ = some (.slice ga n gc) := by rw [cell_of_block hbx]; rfl
    have x1 : wr.cell? ⟨w.heap.size, 1, none⟩ = some (.slice aa n ac) := by rw [cell_of_block hbx]; rfl
    clear hbx
    by_cases hlt : k < n
    · have hr := HR.out.below HK.out
      obtain ⟨b0, o0, h0, c0⟩ := hr.g.at_ (j := k) (by have := HN.out; omega)
      obtain ⟨b1, o1, h1, c1⟩ := hr.a.at_ (j := k) (by have := HN.out; omega)
      subst h0 h1
      obtain ⟨⟨g, al, v⟩, hS⟩ : ∃ s, st.getD k (0, false, undef) = s := ⟨_, rfl⟩
      have hgb := HG.out k (by have := HN.out; omega)
      dsimp only [zI, zB, gF, aF] at c0 c1
      rw [hS] at c0 c1 hgb
      dsimp only at c0 c1 hgb
      have j0 : (0 : Int) ≤ (k : Int) := by omega
      have j1 : (k : Int) < (n : Int) := by omega
      have j2 : decide ((k : Int) < (n : Int)) = true := by simp; omega
      have j3 : decide (k < n) = true := by simpa using hlt
      have hm : m ≤ 1024 := by have := alvL_le st k; have := HM.out; omega
      have g0 : (0 : Int) ≤ (g : Int) := by omega
      have g1 : (g : Int) ≤ 65535 := by omega
      have HS := Lib.hid hS
      clear hr hS hgb
      cases al with
      | true =>
        have hh : 65536 * (g : Int) + (k : Int) = hndI st k := by unfold hndI; rw [HS.out]; dsimp only; omega
        have HH := Lib.hid hh
        clear hh
        go_wp2_with (at_builtin; refine wpList_append_own _ rfl (.tmp 17) (.tmp 26) 51 rfl (w.heap.size + 1) 2 i0 (.int .i64 0) 1 8 Tryd.underlying51 hi hz0 hz1 hz2 rfl (by decide) _ _ _ rfl (HO.out.alloc _) ⟨wr.heap.size, 0, none⟩ 1 1 [.int .i64 (65536 * (g : Int) + (k : Int))] rfl rfl ?c1 ?c2 ?c3 ?c4 ?c5 ?_)
        case c1 => exact World.news_of_block (heap_alloc_new wr _)
        case c2 => intro u hu; simp at hu; subst hu; rfl
        case c3 => unfold maxLen; omega
        case c4 => omega
        case c5 => have := HK.out.size; have := HZ0.out; simp; omega
        intro v' w1 hown hgrow _
        obtain ⟨a', c', rfl⟩ := own_slice hown
        have hk1 : Below W0.heap.size W0 w1 := (HK.out.alloc HK.out.size _).grown hgrow (by have := HK.out.size; simp; omega) (fun r e => by have := (HO.out.lt r e).1; have := HZ0.out; omega)
        have HO1 : Hid (w1.ownsRow (w.heap.size + 1) 2 1 (.slice a' (m + 1) c') (m + 1) (hndL st (alvL st (k + 1)))) := Lib.hid (by rw [hndL_yes (by rw [HS.out]), ← HH.out]; exact hown)
        have HK1 := Lib.hid hk1
        have HM1 : Hid ((alvL st (k + 1)).length = m + 1) := Lib.hid (by rw [alvL_yes (by rw [HS.out]), List.length_append, HM.out]; rfl)
        clear hown hgrow hk1
        go_wp2
        go_roundw
        case rel => exact ⟨k + 1, m + 1, a', c', by omega, by go_num, rfl, HM1, HO1, HK1⟩
        case measure => simp [intOf]; omega
      | false =>
        have HO1 : Hid (wr.ownsRow (w.heap.size + 1) 2 1 (.slice a m c) m (hndL st (alvL st (k + 1)))) := Lib.hid (by rw [hndL_no (by rw [HS.out])]; exact HO.out)
        have HM1 : Hid ((alvL st (k + 1)).length = m) := Lib.hid (by rw [alvL_no (by rw [HS.out])]; exact HM.out)
        go_wp2
        go_roundw
        case rel => exact ⟨k + 1, m, a, c, by omega, by go_num, rfl, HM1, HO1, HK⟩
        case measure => simp [intOf]; omega
    · have j2 : decide ((k : Int) < (n : Int)) = false := by simp; omega
      have j3 : decide (k < n) = false := by simpa using hlt
      obtain rfl : n = k := by omega
      go_wp2
      go_ret
      exact ⟨a, c, by rw [HM.out]; rfl, by rw [HM.out]; exact HO.out, HB.out.trans (HK.out.mono (by rw [HZ0.out]; omega))⟩
end
end Go.Proofs.YtpaecmpiokkdnaaDoor

namespace Go.Proofs.YtpaecmpiokkdnaaDoor
open Go.RowKit Go.Sort Go.Joins
attribute [local go_sem] cell_grow frozen_grow size_grow

theorem roa_stp {w : World} {B n : Nat} {G : Nat → Int} {A : Nat → Bool} {V : Nat → Value} {a0 a1 a2 : Option Addr} {k0 k1 k2 : Nat} (h : OA w B n (zI G) (zB A) (cV A V) (.slice a0 n k0) (.slice a1 n k1) (.slice a2 n k2)) (hb : ∀ j, j < n → badS G A j = false) :
    ROA w (.agg #[.slice a0 n k0, .slice a1 n k1, .slice a2 n k2]) (stP n G A V (.int .i64 0) n) := by
  refine OA.roa stP_length (h.congr (fun j hj => ?_) (fun j hj => ?_) (fun j hj => ?_))
  · unfold zI gF
    rw [stP_get hj, if_pos hj]
    have := (badS_ok (hb j hj)).1
    simp only
    rw [Int.toNat_of_nonneg this]
  · unfold zB aF
    rw [stP_get hj, if_pos hj]
  · unfold cV vF
    rw [stP_get hj, if_pos hj]
section
variable {n na nv : Nat} {ga aa va : Option Addr} {gc ac vc : Nat} {G : Nat → Int} {A : Nat → Bool} {V : Nat → Value}
set_option maxRecDepth 100000 in
set_option maxHeartbeats 1600000 in
theorem rload_roa (w : World) (hG : SlF w ga n (zI G)) (hA : SlF w aa na (zB A)) (hV : SlF w va nv V) (hVf : ∀ j, ∃ x : Int, V j = .int .i64 x) (he : hcE n na nv G A = 0) :
    Calls Tryd.prog 19 #[.agg #[.slice ga n gc, .slice aa na ac, .slice va nv vc]] w fun e w' => ∃ x, e = .returned (.tuple #[x, .int .i64 0]) ∧ ROA w' x (stP n G A V (.int .i64 0) n) ∧ Below w.heap.size w w' := by
  obtain ⟨h1, h2, rfl, rfl, hbad⟩ := hcE_zero he
  have hb0 := (below_box0 w (.cells #[.slice ga nv gc, .slice aa nv ac, .slice va nv vc] 35)).trans ((below_box0 (w.alloc (.cells #[.slice ga nv gc, .slice aa nv ac, .slice va nv vc] 35)) (.cells #[.slice none 0 0, .slice none 0 0, .slice none 0 0] 35)).mono (by simp))
  have HB := Lib.hid hb0
  have HG := Lib.hid (hG.below hb0)
  have HA := Lib.hid (hA.below hb0)
  have HV := Lib.hid (hV.below hb0)
  have HE := Lib.hid he
  have HBad := Lib.hid hbad
  clear hb0 he hG hA hV hbad
  go_enter Tryd.func19, Tryd.ntmps19
  go_wp2_with fail
  refine (rcheck_ok _ HG.out HA.out).mono ?_
  rintro e w1 ⟨rfl, b1⟩
  rw [HE.out]
  have HB1 := Lib.hid (HB.out.trans (b1.mono (by simp; omega)))
  have k0 : w1.cell? ⟨w.heap.size, 0, none⟩ = some (.slice ga nv gc) := (b1.cell (p := ⟨w.heap.size, 0, none⟩) (by simp; omega)).trans (by simp [go_sem])
  have k1 : w1.cell? ⟨w.heap.size, 1, none⟩ = some (.slice aa nv ac) := (b1.cell (p := ⟨w.heap.size, 1, none⟩) (by simp; omega)).trans (by simp [go_sem])
  have k2 : w1.cell? ⟨w.heap.size, 2, none⟩ = some (.slice va nv vc) := (b1.cell (p := ⟨w.heap.size, 2, none⟩) (by simp; omega)).trans (by simp [go_sem])
  have q0 : w1.cell? ⟨w.heap.size + 1, 0, none⟩ = some (.slice none 0 0) := (b1.cell (p := ⟨w.heap.size + 1, 0, none⟩) (by simp)).trans (by simp [go_sem])
  have q1 : w1.cell? ⟨w.heap.size + 1, 1, none⟩ = some (.slice none 0 0) := (b1.cell (p := ⟨w.heap.size + 1, 1, none⟩) (by simp)).trans (by simp [go_sem])
  have q2 : w1.cell? ⟨w.heap.size + 1, 2, none⟩ = some (.slice none 0 0) := (b1.cell (p := ⟨w.heap.size + 1, 2, none⟩) (by simp)).trans (by simp [go_sem])
  have qz : ∀ j, w1.frozen? ⟨w.heap.size + 1, j, none⟩ = false := fun j => (b1.frozen (p := ⟨w.heap.size + 1, j, none⟩) (by simp)).trans (by simp [go_sem])
  have hsz : w.heap.size + 2 ≤ w1.heap.size := by have := b1.size; simp at this; omega
  have HG1 := Lib.hid (HG.out.below b1)
  have HA1 := Lib.hid (HA.out.below b1)
  have HV1 := Lib.hid (HV.out.below b1)
  clear b1
  go_wp2_with fail
  refine (copy_ok _ HG1.out HA1.out HV1.out hVf h1 h2).mono ?_
  rintro e w2 ⟨a0, l0, a1, l1, a2, l2, rfl, oa, b2⟩
  have s0 := (b2.cell (p := ⟨w.heap.size + 1, 0, none⟩) (by dsimp only; omega)).trans q0
  have s1 := (b2.cell (p := ⟨w.heap.size + 1, 1, none⟩) (by dsimp only; omega)).trans q1
  have s2 := (b2.cell (p := ⟨w.heap.size + 1, 2, none⟩) (by dsimp only; omega)).trans q2
  have sz : ∀ j, w2.frozen? ⟨w.heap.size + 1, j, none⟩ = false := fun j => (b2.frozen (p := ⟨w.heap.size + 1, j, none⟩) (by dsimp only; omega)).trans (qz j)
  have HO := Lib.hid oa
  have HB2 := Lib.hid (HB1.out.trans (b2.mono (by omega)))
  clear oa b2
  go_wp2
  refine bodyPost_ret (v := .tuple #[.agg #[.slice a0 nv l0, .slice a1 nv l1, .slice a2 nv l2], .int .i64 0]) (by simp [results, Tryd.f19, go_sem, s0, s1, s2]) rfl ?_
  have ho := HO.out
  have hlt3 : ∀ j : Nat, (⟨w.heap.size + 1, j, none⟩ : Addr).block < w1.heap.size + 2 := fun j => by dsimp only; omega
  exact ⟨_, rfl, roa_stp ⟨ownsRow_setCell_below (ownsRow_setCell_below (ownsRow_setCell_below ho.o0 (hlt3 0) _) (hlt3 1) _) (hlt3 2) _, ownsRow_setCell_below (ownsRow_setCell_below (ownsRow_setCell_below ho.o1 (hlt3 0) _) (hlt3 1) _) (hlt3 2) _, ownsRow_setCell_below (ownsRow_setCell_below (ownsRow_setCell_below ho.o2 (hlt3 0) _) (hlt3 1) _) (hlt3 2) _, ho.n02⟩ HBad.out,
    ((HB2.out.setCell (p := ⟨w.heap.size + 1, 0, none⟩) (by dsimp only; omega) _).setCell (p := ⟨w.heap.size + 1, 1, none⟩) (by dsimp only; omega) _).setCell (p := ⟨w.heap.size + 1, 2, none⟩) (by dsimp only; omega) _⟩
end
end Go.Proofs.YtpaecmpiokkdnaaDoor

namespace Go.Proofs.YtpaecmpiokkdnaaDoor
open Go.RowKit Go.Sort Go.Joins

/-- what is known of the slots -/
structure PS (n : Nat) (st : List Slt) : Prop where
  len : st.length = n
  gb : ∀ j, j < st.length → (st.getD j (0, false, undef)).1 ≤ 65535
  one : ∀ j, j < st.length → (st.getD j (0, false, undef)).2.1 = true → 1 ≤ (st.getD j (0, false, undef)).1
  iv : IV st
  dz : DZ st
theorem PS.set {n i : Nat} {st : List Slt} {s : Slt} (h : PS n st) (hi : i < st.length) (h1 : s.1 ≤ 65535) (h2 : s.2.1 = true → 1 ≤ s.1) (h3 : ∃ z : Int, s.2.2 = .int .i64 z) (h4 : s.2.1 = false → s.2.2 = .int .i64 0) : PS n (st.set i s) := by
  refine ⟨by rw [List.length_set]; exact h.len, fun j hj => ?_, fun j hj => ?_, h.iv.set hi h3, h.dz.set hi h4⟩
  · rw [List.length_set] at hj
    rw [getD_set hi]
    by_cases e : i = j
    · rw [if_pos e]; exact h1
    · rw [if_neg e]; exact h.gb j hj
  · rw [List.length_set] at hj
    rw [getD_set hi]
    by_cases e : i = j
    · rw [if_pos e]; exact h2
    · rw [if_neg e]; exact h.one j hj
/-- what lies in memory: the table has the slots st, the state has the slots su -/
structure PL (w W : World) (B p q n : Nat) (st su : List Slt) (K : List Kn) (a0 : Option Addr) (k0 : Nat) (a1 : Option Addr) (k1 : Nat) (a2 : Option Addr) (k2 : Nat) (r : Value) : Prop where
  t : Int.TT W B p q st
  tab : Tab W
  bx : W.heap[w.heap.size]? = some (.cells #[.slice a0 n k0, .slice a1 n k1, .slice a2 n k2] 35 (0, 0))
  oa : OA W 0 n (zI (gF su)) (zB (aF su)) (vF su) (.slice a0 n k0) (.slice a1 n k1) (.slice a2 n k2)
  row : W.ownsRow w.heap.size 2 1 r K.length (kH K)
  rb : W.heap[w.heap.size + 1]? = some (.cells #[.slice none 0 0, .slice none 0 0, .slice none 0 0] 35 (0, 0))
  fr : Fr p q w W
  pw : p < w.heap.size
  qw : q < w.heap.size
  tw : 0 < B
  bp : B ≤ p ∧ B ≤ q
section
variable {w W W' : World} {B p q n : Nat} {st st' su su' : List Slt} {K : List Kn} {a0 a1 a2 b0 b1 b2 : Option Addr} {k0 k1 k2 l0 l1 l2 : Nat} {r : Value}
theorem OA.base {w : World} {B n : Nat} {f0 f1 f2 : Nat → Value} {r0 r1 r2 : Value} (h : OA w B n f0 f1 f2 r0 r1 r2) : OA w 0 n f0 f1 f2 r0 r1 r2 :=
  ⟨ownsRow_le h.o0 (Nat.zero_le _), ownsRow_le h.o1 (Nat.zero_le _), ownsRow_le h.o2 (Nat.zero_le _), h.n02⟩
theorem PL.below (h : PL w W B p q n st su K a0 k0 a1 k1 a2 k2 r) (hb : Below W.heap.size W W') : PL w W' B p q n st su K a0 k0 a1 k1 a2 k2 r :=
  ⟨Tg.below h.t hb, h.tab.below hb, (hb.block _ (blk_lt h.bx)).trans h.bx, h.oa.below hb, own_below h.row hb, (hb.block _ (blk_lt h.rb)).trans h.rb, h.fr.trans (Fr.of_below hb), h.pw, h.qw, h.tw, h.bp⟩
theorem PL.table (h : PL w W B p q n st su K a0 k0 a1 k1 a2 k2 r) (ht : Int.TT W' B p q st') (f : Fr p q W W') : PL w W' B p q n st' su K a0 k0 a1 k1 a2 k2 r := by
  obtain ⟨ra, rcap, h1, _⟩ := Tb.tbl h.t
  have h2 := h.t.slots
  have hp := h.pw
  have hq := h.qw
  refine ⟨ht, h.tab.fr f (by have := h.tw; have := h.bp.1; omega) (by have := h.tw; have := h.bp.2; omega), (f.block _ (blk_lt h.bx) (by omega) (by omega)).trans h.bx, ⟨own_fr h.oa.o0 f h1 h2 (by decide) (by decide), own_fr h.oa.o1 f h1 h2 (by decide) (by decide), own_fr h.oa.o2 f h1 h2 (by decide) (by decide), h.oa.n02⟩,
    own_fr h.row f h1 h2 (by decide) (by decide), (f.block _ (blk_lt h.rb) (by omega) (by omega)).trans h.rb, h.fr.trans f, h.pw, h.qw, h.tw, h.bp⟩
/-- the state's box is stored anew -/
theorem PL.box (h : PL w W B p q n st su K a0 k0 a1 k1 a2 k2 r) (ho : OA W 0 n (zI (gF su')) (zB (aF su')) (vF su') (.slice b0 n l0) (.slice b1 n l1) (.slice b2 n l2)) :
    PL w (((W.setCell ⟨w.heap.size, 0, none⟩ (.slice b0 n l0)).setCell ⟨w.heap.size, 1, none⟩ (.slice b1 n l1)).setCell ⟨w.heap.size, 2, none⟩ (.slice b2 n l2)) B p q n st su' K b0 l0 b1 l1 b2 l2 r := by
  have hb := h.bx
  have hp := h.pw
  have hq := h.qw
  have hb1 : (W.setCell ⟨w.heap.size, 0, none⟩ (.slice b0 n l0)).heap[w.heap.size]? = some (.cells #[.slice b0 n l0, .slice a1 n k1, .slice a2 n k2] 35 (0, 0)) := by rw [setCell_block hb]; rfl
  have hb2 : ((W.setCell ⟨w.heap.size, 0, none⟩ (.slice b0 n l0)).setCell ⟨w.heap.size, 1, none⟩ (.slice b1 n l1)).heap[w.heap.size]? = some (.cells #[.slice b0 n l0, .slice b1 n l1, .slice a2 n k2] 35 (0, 0)) := by rw [setCell_block hb1]; rfl
  have keep : ∀ {bs : Nat} {e : TypeId} {v : Value} {m : Nat} {xs : List Value}, W.ownsRow bs e 1 v m xs → e ≠ 35 → (((W.setCell ⟨w.heap.size, 0, none⟩ (.slice b0 n l0)).setCell ⟨w.heap.size, 1, none⟩ (.slice b1 n l1)).setCell ⟨w.heap.size, 2, none⟩ (.slice b2 n l2)).ownsRow bs e 1 v m xs := fun ho hne =>
    ownsRow_setCell_other (ownsRow_setCell_other (ownsRow_setCell_other ho (a := ⟨w.heap.size, 0, none⟩) (own_ne ho hb hne) _) (a := ⟨w.heap.size, 1, none⟩) (own_ne ho hb hne) _) (a := ⟨w.heap.size, 2, none⟩) (own_ne ho hb hne) _
  refine ⟨Tb.set_other (Tb.set_other (Tb.set_other h.t hb (by decide) (by omega) (by omega) _) hb1 (by decide) (by omega) (by omega) _) hb2 (by decide) (by omega) (by omega) _, ?_, ?_, ⟨keep ho.o0 (by decide), keep ho.o1 (by decide), keep ho.o2 (by decide), ho.n02⟩, keep h.row (by decide), ?_, ?_, h.pw, h.qw, h.tw, h.bp⟩
  · have e1 : 0 ≠ w.heap.size := by have := h.tw; have := h.bp.1; omega
    exact ((h.tab.blk e1 _).blk e1 _).blk e1 _
  · rw [setCell_block hb2]; rfl
  · exact (Below.heap_setCell _ _ _ _ (by dsimp only; omega)).trans ((Below.heap_setCell _ _ _ _ (by dsimp only; omega)).trans ((Below.heap_setCell _ _ _ _ (by dsimp only; omega)).trans h.rb))
  · have f := h.fr
    refine ⟨f.os, f.tape, f.output, by simp only [World.size_setCell]; exact f.size, fun k hk h1 h2 => ?_⟩
    exact (Below.heap_setCell _ _ _ _ (by dsimp only; omega)).trans ((Below.heap_setCell _ _ _ _ (by dsimp only; omega)).trans ((Below.heap_setCell _ _ _ _ (by dsimp only; omega)).trans (f.block k hk h1 h2)))
/-- a handle more -/
theorem PL.give {W1 : World} {h : Int} {N c g : Nat} (H : PL w W B p q n st su K a0 k0 a1 k1 a2 k2 r) (hN : K.length = N) (ho : W1.ownsRow w.heap.size 2 1 (.slice (some ⟨g, 0, none⟩) (N + 1) c) (N + 1) (kH K ++ [.int .i64 h])) (hg : (W.alloc (.cells #[.int .i64 h] 2)).grownBy W1 r.ownBlock) :
    PL w W1 B p q n st su (K ++ [(h, false, 0)]) a0 k0 a1 k1 a2 k2 (.slice (some ⟨g, 0, none⟩) (N + 1) c) := by
  have N1 : ∀ {k : Nat} {cs : Array Value} {t : TypeId}, W.heap[k]? = some (.cells cs t (0, 0)) → 2 ≠ t → W1.heap[k]? = some (.cells cs t (0, 0)) := fun hk hne =>
    (hg.block _ (by simp; have := blk_lt hk; omega) (fun e => own_ne H.row hk hne e.symm)).trans ((Below.heap_alloc _ _ _ (blk_lt hk)).trans hk)
  have keep : ∀ {bs : Nat} {e : TypeId} {v : Value} {m : Nat} {xs : List Value}, W.ownsRow bs e 1 v m xs → 2 ≠ e → W1.ownsRow bs e 1 v m xs := fun ho hne => by
    refine ⟨ho.1, ?_⟩
    rcases ho.2 with h3 | ⟨g, cap, cur, e1, e2, e3, e4⟩
    · exact .inl h3
    · exact .inr ⟨g, cap, cur, e1, e2, N1 e3 hne, e4⟩
  have hsz := H.fr.size
  have low : ∀ k, k < w.heap.size → W1.heap[k]? = W.heap[k]? := fun k hk =>
    (hg.block k (by simp; omega) (fun e => by have := (H.row.lt k e.symm).1; omega)).trans (Below.heap_alloc _ _ _ (by omega))
  obtain ⟨ra, rcap, h1, h2⟩ := Tb.tbl H.t
  refine ⟨⟨H.t.hp, H.t.hq, H.t.ne, H.t.n1, H.t.n2, ⟨ra, rcap, N1 h1 (by decide), keep h2 (by decide)⟩, N1 H.t.slots (by decide), H.t.rb⟩, fun i hi => ?_, N1 H.bx (by decide), ⟨keep H.oa.o0 (by decide), keep H.oa.o1 (by decide), keep H.oa.o2 (by decide), H.oa.n02⟩, ?_, N1 H.rb (by decide), ?_, H.pw, H.qw, H.tw, H.bp⟩
  · rw [World.cell?_of_block (w := W) (low 0 (by have := H.tw; have := H.bp.1; have := H.pw; omega))]
    exact H.tab i hi
  · rw [List.length_append, hN, show kH (K ++ [(h, false, 0)]) = kH K ++ [.int .i64 h] by simp [kH]]
    exact ho
  · have f := H.fr
    refine ⟨hg.os.trans f.os, hg.tape.trans f.tape, hg.output.trans f.output, Nat.le_trans hsz (by have := hg.size; simp at this; omega), fun k hk h1 h2 => (low k hk).trans (f.block k hk h1 h2)⟩
end
end Go.Proofs.YtpaecmpiokkdnaaDoor

namespace Go.Proofs.YtpaecmpiokkdnaaDoor
open Go.RowKit Go.Sort Go.Joins

/-- rows of their own that read as a list of slots -/
abbrev OS (w : World) (n : Nat) (st : List Slt) (a0 : Option Addr) (k0 : Nat) (a1 : Option Addr) (k1 : Nat) (a2 : Option Addr) (k2 : Nat) : Prop := OA w 0 n (zI (gF st)) (zB (aF st)) (vF st) (.slice a0 n k0) (.slice a1 n k1) (.slice a2 n k2)
section
variable {w : World} {n : Nat} {st : List Slt} {a0 a1 a2 : Option Addr} {k0 k1 k2 : Nat}
theorem OS.ra (h : OS w n st a0 k0 a1 k1 a2 k2) (hn : st.length = n) : RA w st a0 a1 a2 := by subst hn; exact ⟨SlF.of_row h.o0, SlF.of_row h.o1, SlF.of_row h.o2⟩
theorem ROA.os {x : Value} (h : ROA w x st) (hn : st.length = n) : ∃ a0 k0 a1 k1 a2 k2, x = .agg #[.slice a0 n k0, .slice a1 n k1, .slice a2 n k2] ∧ OS w n st a0 k0 a1 k1 a2 k2 := by
  subst hn
  obtain ⟨B, a0, k0, a1, k1, a2, k2, e, h⟩ := h
  exact ⟨a0, k0, a1, k1, a2, k2, e, h.base⟩
theorem pget (h : Int) (W : World) (hp : PS n st) (ho : OS W n st a0 k0 a1 k1 a2 k2) (hn : n ≤ 1024) :
    Calls Tryd.prog 48 #[.agg #[.slice a0 n k0, .slice a1 n k1, .slice a2 n k2], .int .i64 h] W fun e w' => e = .returned (.tuple #[getV st h, .int .i64 (findE st h)]) ∧ Below W.heap.size W w' := by
  obtain rfl := hp.len
  exact rget_ok h W (ho.ra rfl) hn hp.iv
theorem pset_err (h v : Int) (W : World) (hp : PS n st) (ho : OS W n st a0 k0 a1 k1 a2 k2) (hn : n ≤ 1024) (he : findE st h ≠ 0) :
    Calls Tryd.prog 70 #[.agg #[.slice a0 n k0, .slice a1 n k1, .slice a2 n k2], .int .i64 h, .int .i64 v] W fun e w' => e = .returned (.tuple #[.agg #[.slice a0 n k0, .slice a1 n k1, .slice a2 n k2], .int .i64 (findE st h)]) ∧ Below W.heap.size W w' := by
  obtain rfl := hp.len
  exact rset_err h v W (ho.ra rfl) hn he
theorem pset_ok (h v : Int) (i : Nat) (W : World) (hp : PS n st) (ho : OS W n st a0 k0 a1 k1 a2 k2) (h1 : 1 ≤ n) (hn : n ≤ 1024) (he : findE st h = 0) (hi : slotI h = i) :
    Calls Tryd.prog 70 #[.agg #[.slice a0 n k0, .slice a1 n k1, .slice a2 n k2], .int .i64 h, .int .i64 v] W fun e w' => ∃ b0 l0 b1 l1 b2 l2, e = .returned (.tuple #[.agg #[.slice b0 n l0, .slice b1 n l1, .slice b2 n l2], .int .i64 0]) ∧
      OS w' n (st.set i ((st.getD i (0, false, undef)).1, (st.getD i (0, false, undef)).2.1, .int .i64 v)) b0 l0 b1 l1 b2 l2 ∧ Below W.heap.size W w' := by
  obtain rfl := hp.len
  refine (rset_ok h v i W (ho.ra rfl) hp.iv hp.dz h1 hn he hi).mono ?_
  rintro e w' ⟨x, rfl, hr, hb⟩
  obtain ⟨b0, l0, b1, l1, b2, l2, rfl, hr2⟩ := hr.os (List.length_set ..)
  exact ⟨b0, l0, b1, l1, b2, l2, rfl, hr2, hb⟩
theorem pdrop_err (h : Int) (W : World) (hp : PS n st) (ho : OS W n st a0 k0 a1 k1 a2 k2) (hn : n ≤ 1024) (he : findE st h ≠ 0) :
    Calls Tryd.prog 71 #[.agg #[.slice a0 n k0, .slice a1 n k1, .slice a2 n k2], .int .i64 h] W fun e w' => e = .returned (.tuple #[.agg #[.slice a0 n k0, .slice a1 n k1, .slice a2 n k2], .int .i64 0, .int .i64 (findE st h)]) ∧ Below W.heap.size W w' := by
  obtain rfl := hp.len
  exact rdrop_err h W (ho.ra rfl) hn he
theorem pdrop_ok (h : Int) (i : Nat) (W : World) (hp : PS n st) (ho : OS W n st a0 k0 a1 k1 a2 k2) (h1 : 1 ≤ n) (hn : n ≤ 1024) (he : findE st h = 0) (hi : slotI h = i) :
    Calls Tryd.prog 71 #[.agg #[.slice a0 n k0, .slice a1 n k1, .slice a2 n k2], .int .i64 h] W fun e w' => ∃ b0 l0 b1 l1 b2 l2, e = .returned (.tuple #[.agg #[.slice b0 n l0, .slice b1 n l1, .slice b2 n l2], (st.getD i (0, false, undef)).2.2, .int .i64 0]) ∧
      OS w' n (st.set i ((st.getD i (0, false, undef)).1, false, .int .i64 0)) b0 l0 b1 l1 b2 l2 ∧ Below W.heap.size W w' := by
  obtain rfl := hp.len
  refine (rdrop_ok h i W (ho.ra rfl) hp.iv hp.dz h1 hn he hi).mono ?_
  rintro e w' ⟨x, rfl, hr, hb⟩
  obtain ⟨b0, l0, b1, l1, b2, l2, rfl, hr2⟩ := hr.os (List.length_set ..)
  exact ⟨b0, l0, b1, l1, b2, l2, rfl, hr2, hb⟩
theorem pput_full (v : Int) (W : World) (hp : PS n st) (ho : OS W n st a0 k0 a1 k1 a2 k2) (hn : n ≤ 1024) (hf : ¬ nxt (rdyF st) 0 st.length < st.length) :
    Calls Tryd.prog 72 #[.agg #[.slice a0 n k0, .slice a1 n k1, .slice a2 n k2], .int .i64 v] W fun e w' => e = .returned (.tuple #[.agg #[.slice a0 n k0, .slice a1 n k1, .slice a2 n k2], .int .i64 0, .int .i64 5]) ∧ Below W.heap.size W w' := by
  obtain rfl := hp.len
  obtain ⟨_, s2, s3, _⟩ := nxt_spec (p := rdyF st) (a := 0) (n := st.length) (Nat.zero_le _)
  exact rput_full v W (ho.ra rfl) hn hp.gb (fun j hj => s3 j (Nat.zero_le _) (by omega))
theorem pput_ok (v : Int) (i : Nat) (W : World) (hp : PS n st) (ho : OS W n st a0 k0 a1 k1 a2 k2) (h1 : 1 ≤ n) (hn : n ≤ 1024) (hi : nxt (rdyF st) 0 st.length = i) (hlt : i < st.length) :
    Calls Tryd.prog 72 #[.agg #[.slice a0 n k0, .slice a1 n k1, .slice a2 n k2], .int .i64 v] W fun e w' => ∃ b0 l0 b1 l1 b2 l2, e = .returned (.tuple #[.agg #[.slice b0 n l0, .slice b1 n l1, .slice b2 n l2], .int .i64 ((((st.getD i (0, false, undef)).1 : Int) + 1) * 65536 + i), .int .i64 0]) ∧
      OS w' n (st.set i ((st.getD i (0, false, undef)).1 + 1, true, .int .i64 v)) b0 l0 b1 l1 b2 l2 ∧ Below W.heap.size W w' := by
  obtain rfl := hp.len
  obtain ⟨_, s2, s3, _⟩ := nxt_spec (p := rdyF st) (a := 0) (n := st.length) (Nat.zero_le _)
  refine (rput_ok v i W (ho.ra rfl) hp.iv hp.dz h1 hn hp.gb (Int.next_at hi hlt) (fun j hj => s3 j (Nat.zero_le _) (by omega))).mono ?_
  rintro e w' ⟨x, rfl, hr, hb⟩
  obtain ⟨b0, l0, b1, l1, b2, l2, rfl, hr2⟩ := hr.os (List.length_set ..)
  exact ⟨b0, l0, b1, l1, b2, l2, rfl, hr2, hb⟩
theorem plen (W : World) (hp : PS n st) (ho : OS W n st a0 k0 a1 k1 a2 k2) (hn : n ≤ 1024) :
    Calls Tryd.prog 73 #[.agg #[.slice a0 n k0, .slice a1 n k1, .slice a2 n k2]] W fun e w' => e = .returned (.int .i64 ((st.countP alv : Nat) : Int)) ∧ Below W.heap.size W w' := by
  obtain rfl := hp.len
  exact rlen_ok W (ho.ra rfl) hn
theorem proom (W : World) (hp : PS n st) (ho : OS W n st a0 k0 a1 k1 a2 k2) (hn : n ≤ 1024) :
    Calls Tryd.prog 74 #[.agg #[.slice a0 n k0, .slice a1 n k1, .slice a2 n k2]] W fun e w' => e = .returned (.int .i64 ((cnt (rdyF st) 0 st.length : Nat) : Int)) ∧ Below W.heap.size W w' := by
  have e : cnt (rdyF st) 0 st.length = st.countP rdy := by
    rw [← cnt_st rdy st]
    exact cnt_congr _ fun i hi => by unfold rdyF; simp [hi]
  rw [e]
  obtain rfl := hp.len
  exact rroom_ok W (ho.ra rfl) hn
end
end Go.Proofs.YtpaecmpiokkdnaaDoor
