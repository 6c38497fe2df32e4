/- Handles: the reference's SameHandles, All, Set, Drop, Put, New, over states that read as lists of slots. -/
import Derived.Test.YtpaecmpiokkdnaaDoorTypesZ16
import Derived.Test.YtpaecmpiokkdnaaDoorTypesZ19
namespace Go.Proofs.YtpaecmpiokkdnaaDoor
open Go.RowKit Go.Sort Go.Joins
attribute [local go_sem] cell_grow frozen_grow size_grow

section
variable {a b : Option Addr} {n m ca cb : Nat} {F : Nat → Int}
set_option maxRecDepth 100000 in
set_option maxHeartbeats 1600000 in
/-- two lists that are equal -/
theorem rsh_ok (w : World) (hA : SlF w a n (zI F)) (hB : SlF w b n (zI F)) (hn : n ≤ 100000) :
    Calls Tryd.prog 49 #[.slice a n ca, .slice b n cb] w fun e w' => e = .returned (.bool true) ∧ Below w.heap.size w w' := by
  have HA := Lib.hid hA
  have HB := Lib.hid hB
  have q0 : ((n : Int) != (n : Int)) = false := by simp
  clear hA hB
  go_enter Tryd.func49, Tryd.ntmps49
  go_wp2
  go_loopw [5] (fun x wr => ∃ j : Nat, j ≤ n ∧ x = .int .i64 j ∧ Hid (Below w.heap.size w wr)) (fun x _ => n - (intOf x).toNat)
  case atStart => exact ⟨0, Nat.zero_le _, rfl, Lib.hid (Below.refl _ _)⟩
  case round =>
    obtain ⟨j, hj, rfl, HK⟩ := hrel
    by_cases hjl : j < n
    · obtain ⟨b0, o0, h0, c0⟩ := (HA.out.below HK.out).at_ hjl
      obtain ⟨b1, o1, h1, c1⟩ := (HB.out.below HK.out).at_ hjl
      subst h0 h1
      obtain ⟨z, hz⟩ : ∃ z, F j = z := ⟨_, rfl⟩
      dsimp only [zI] at c0 c1
      rw [hz] at c0 c1
      have j0 : (0 : Int) ≤ (j : Int) := by omega
      have j1 : (j : Int) < (n : Int) := by omega
      have j2 : decide ((j : Int) < (n : Int)) = true := by simp; omega
      have j3 : decide (j < n) = true := by simpa using hjl
      have q1 : (z != z) = false := by simp
      clear hz
      go_wp2
      go_quiet (fail)
      go_wp2
      go_roundw
      case rel => exact ⟨j + 1, by omega, by go_num, Lib.hid (HK.out.trans ((below_draw _ _).mono HK.out.size))⟩
      case measure => simp [intOf]; omega
    · have j2 : decide ((j : Int) < (n : Int)) = false := by simp; omega
      have j3 : decide (j < n) = false := by simpa using hjl
      go_wp2
      go_ret
      exact ⟨rfl, HK.out⟩
end
/-- slots that are not alive hold no value -/
def DZ (st : List Slt) : Prop := ∀ j, j < st.length → (sAt st j).2.1 = false → (sAt st j).2.2 = .int .i64 0
def IV (st : List Slt) : Prop := ∀ j, j < st.length → ∃ z : Int, (sAt st j).2.2 = .int .i64 z
theorem rowF_congr {n : Nat} {f g : Nat → Value} (h : ∀ j, j < n → f j = g j) : rowF n f = rowF n g := by
  unfold rowF
  exact List.map_congr_left fun j hj => h j (List.mem_range.1 hj)
theorem rowF_set {n i : Nat} {f : Nat → Value} (v : Value) : (rowF n f).set i v = rowF n (fun j => if j = i then v else f j) := by
  apply List.ext_getElem?
  intro j
  rw [List.getElem?_set, rowF_length]
  by_cases e : i = j
  · subst e
    rw [if_pos rfl]
    by_cases h : i < n
    · rw [if_pos h, rowF_get h, if_pos rfl]
    · rw [if_neg h]; simp [rowF, h]
  · rw [if_neg e]
    by_cases h : j < n
    · rw [rowF_get h, rowF_get h, if_neg (fun e' => e e'.symm)]
    · simp [rowF, h]
theorem OA.congr {w : World} {B n : Nat} {f0 f1 f2 g0 g1 g2 : Nat → Value} {r0 r1 r2 : Value} (h : OA w B n f0 f1 f2 r0 r1 r2) (h0 : ∀ j, j < n → f0 j = g0 j) (h1 : ∀ j, j < n → f1 j = g1 j) (h2 : ∀ j, j < n → f2 j = g2 j) : OA w B n g0 g1 g2 r0 r1 r2 :=
  ⟨by rw [← rowF_congr h0]; exact h.o0, by rw [← rowF_congr h1]; exact h.o1, by rw [← rowF_congr h2]; exact h.o2, h.n02⟩
theorem OA.below {w w' : World} {B n : Nat} {f0 f1 f2 : Nat → Value} {r0 r1 r2 : Value} (h : OA w B n f0 f1 f2 r0 r1 r2) (hb : Below w.heap.size w w') : OA w' B n f0 f1 f2 r0 r1 r2 :=
  ⟨own_below h.o0 hb, own_below h.o1 hb, own_below h.o2 hb, h.n02⟩
theorem OA.rs {w : World} {B : Nat} {st : List Slt} {a0 a1 a2 : Option Addr} {k0 k1 k2 : Nat} (h : OA w B st.length (zI (gF st)) (zB (aF st)) (vF st) (.slice a0 st.length k0) (.slice a1 st.length k1) (.slice a2 st.length k2)) :
    RS w (.agg #[.slice a0 st.length k0, .slice a1 st.length k1, .slice a2 st.length k2]) st := ⟨a0, k0, a1, k1, a2, k2, rfl, SlF.of_row h.o0, SlF.of_row h.o1, SlF.of_row h.o2⟩
theorem OA.rs' {w : World} {B n : Nat} {st : List Slt} {a0 a1 a2 : Option Addr} {k0 k1 k2 : Nat} (hn : st.length = n) (h : OA w B n (zI (gF st)) (zB (aF st)) (vF st) (.slice a0 n k0) (.slice a1 n k1) (.slice a2 n k2)) :
    RS w (.agg #[.slice a0 n k0, .slice a1 n k1, .slice a2 n k2]) st := by subst hn; exact h.rs
/-- a state in rows of its own that reads as a list of slots -/
def ROA (w : World) (x : Value) (st : List Slt) : Prop := ∃ B a0 k0 a1 k1 a2 k2, x = .agg #[.slice a0 st.length k0, .slice a1 st.length k1, .slice a2 st.length k2] ∧ OA w B st.length (zI (gF st)) (zB (aF st)) (vF st) (.slice a0 st.length k0) (.slice a1 st.length k1) (.slice a2 st.length k2)
theorem OA.roa {w : World} {B n : Nat} {st : List Slt} {a0 a1 a2 : Option Addr} {k0 k1 k2 : Nat} (hn : st.length = n) (h : OA w B n (zI (gF st)) (zB (aF st)) (vF st) (.slice a0 n k0) (.slice a1 n k1) (.slice a2 n k2)) :
    ROA w (.agg #[.slice a0 n k0, .slice a1 n k1, .slice a2 n k2]) st := by subst hn; exact ⟨B, a0, k0, a1, k1, a2, k2, rfl, h⟩
theorem ROA.rs {w : World} {x : Value} {st : List Slt} (h : ROA w x st) : RS w x st := by
  obtain ⟨B, a0, k0, a1, k1, a2, k2, rfl, h⟩ := h
  exact h.rs
theorem OA.low {w : World} {B n k j : Nat} {f0 f1 f2 : Nat → Value} {r0 r1 r2 : Value} (h : OA w B n f0 f1 f2 r0 r1 r2) (hk : k < B) (v : Value) : OA (w.setCell ⟨k, j, none⟩ v) B n f0 f1 f2 r0 r1 r2 :=
  ⟨ownsRow_setCell_below h.o0 (by dsimp only; omega) _, ownsRow_setCell_below h.o1 (by dsimp only; omega) _, ownsRow_setCell_below h.o2 (by dsimp only; omega) _, h.n02⟩
theorem cV_vF {st : List Slt} (h : DZ st) {j : Nat} (hj : j < st.length) : cV (aF st) (vF st) j = vF st j := by
  unfold cV
  cases ha : aF st j with
  | true => rfl
  | false => exact (h j hj ha).symm
theorem gF_set {st : List Slt} {i j : Nat} {s : Slt} (hi : i < st.length) : gF (st.set i s) j = if j = i then (s.1 : Int) else gF st j := by
  unfold gF
  rw [getD_set hi]
  by_cases e : i = j
  · rw [if_pos e, if_pos e.symm]
  · rw [if_neg e, if_neg (fun e' => e e'.symm)]
theorem aF_set {st : List Slt} {i j : Nat} {s : Slt} (hi : i < st.length) : aF (st.set i s) j = if j = i then s.2.1 else aF st j := by
  unfold aF
  rw [getD_set hi]
  by_cases e : i = j
  · rw [if_pos e, if_pos e.symm]
  · rw [if_neg e, if_neg (fun e' => e e'.symm)]
theorem vF_set {st : List Slt} {i j : Nat} {s : Slt} (hi : i < st.length) : vF (st.set i s) j = if j = i then s.2.2 else vF st j := by
  unfold vF
  rw [getD_set hi]
  by_cases e : i = j
  · rw [if_pos e, if_pos e.symm]
  · rw [if_neg e, if_neg (fun e' => e e'.symm)]
theorem DZ.set {st : List Slt} {i : Nat} {s : Slt} (h : DZ st) (hi : i < st.length) (hs : s.2.1 = false → s.2.2 = .int .i64 0) : DZ (st.set i s) := fun j hj => by
  rw [List.length_set] at hj
  rw [sAt_set hi]
  by_cases e : i = j
  · rw [if_pos e]; exact hs
  · rw [if_neg e]; exact h j hj
theorem IV.set {st : List Slt} {i : Nat} {s : Slt} (h : IV st) (hi : i < st.length) (hs : ∃ z : Int, s.2.2 = .int .i64 z) : IV (st.set i s) := KI.vals h hs hi
theorem vF_all {st : List Slt} (h : IV st) (V : Nat → Value) (hV : ∀ j, V j = if j < st.length then vF st j else .int .i64 0) : ∀ j, ∃ x : Int, V j = .int .i64 x := fun j => by
  rw [hV]
  by_cases e : j < st.length
  · rw [if_pos e]; exact h j e
  · rw [if_neg e]; exact ⟨0, rfl⟩
/-- Copy, of a state that reads as a list of slots -/
theorem copy_st (w : World) {st : List Slt} {ga aa va : Option Addr} {gc ac vc : Nat} (hr : RA w st ga aa va) (hi : IV st) (hz : DZ st) (h1 : 1 ≤ st.length) (h2 : st.length ≤ 1024) :
    Calls Tryd.prog 56 #[.agg #[.slice ga st.length gc, .slice aa st.length ac, .slice va st.length vc]] w fun e w' => ∃ a0 k0 a1 k1 a2 k2, e = .returned (.agg #[.slice a0 st.length k0, .slice a1 st.length k1, .slice a2 st.length k2]) ∧
      OA w' (w.heap.size + 2) st.length (zI (gF st)) (zB (aF st)) (vF st) (.slice a0 st.length k0) (.slice a1 st.length k1) (.slice a2 st.length k2) ∧ Below w.heap.size w w' := by
  obtain ⟨V, hV⟩ : ∃ V : Nat → Value, ∀ j, V j = if j < st.length then vF st j else .int .i64 0 := ⟨_, fun _ => rfl⟩
  refine (copy_ok w hr.g hr.a (hr.v.congr (g := V) fun j hj => by rw [hV, if_pos hj]) (vF_all hi V hV) h1 h2).mono ?_
  rintro e w' ⟨a0, k0, a1, k1, a2, k2, he, ho, hb⟩
  refine ⟨a0, k0, a1, k1, a2, k2, he, ho.congr (fun _ _ => rfl) (fun _ _ => rfl) (fun j hj => ?_), hb⟩
  rw [← cV_vF hz hj]
  unfold cV
  cases aF st j with
  | true => rw [if_pos rfl, if_pos rfl, hV, if_pos hj]
  | false => rfl
theorem OA.set0 {w : World} {B n i g k : Nat} {f0 f1 f2 : Nat → Value} {r1 r2 : Value} (h : OA w B n f0 f1 f2 (.slice (some ⟨g, 0, none⟩) n k) r1 r2) (hi : i < n) (v : Value) : OA (w.setCell ⟨g, i, none⟩ v) B n (fun j => if j = i then v else f0 j) f1 f2 (.slice (some ⟨g, 0, none⟩) n k) r1 r2 := by
  refine ⟨by rw [← rowF_set]; exact own_setAt h.o0 hi v, ?_, ?_, h.n02⟩
  · refine ownsRow_setCell_other h.o1 (a := ⟨g, i, none⟩) ?_ _
    rcases h.o0.2 with ⟨h1, _⟩ | ⟨g', cap', cur, e1, _, e3, _⟩
    · cases h1
    · simp only [Value.slice.injEq, Option.some.injEq, Addr.mk.injEq, and_true, true_and] at e1
      obtain ⟨rfl, rfl⟩ := e1
      exact own_ne h.o1 e3 (by decide)
  · exact ownsRow_setCell_other h.o2 (a := ⟨g, i, none⟩) (h.n02 g rfl) _
theorem OA.set1 {w : World} {B n i g k : Nat} {f0 f1 f2 : Nat → Value} {r0 r2 : Value} (h : OA w B n f0 f1 f2 r0 (.slice (some ⟨g, 0, none⟩) n k) r2) (hi : i < n) (v : Value) : OA (w.setCell ⟨g, i, none⟩ v) B n f0 (fun j => if j = i then v else f1 j) f2 r0 (.slice (some ⟨g, 0, none⟩) n k) r2 := by
  have hne : ∀ {r : Value} {xs : List Value}, w.ownsRow B 3 1 r n xs → r.ownBlock ≠ some g := by
    intro r xs hr
    rcases h.o1.2 with ⟨h1, _⟩ | ⟨g', cap', cur, e1, _, e3, _⟩
    · cases h1
    · simp only [Value.slice.injEq, Option.some.injEq, Addr.mk.injEq, and_true, true_and] at e1
      obtain ⟨rfl, rfl⟩ := e1
      exact own_ne hr e3 (by decide)
  exact ⟨ownsRow_setCell_other h.o0 (a := ⟨g, i, none⟩) (hne h.o0) _, by rw [← rowF_set]; exact own_setAt h.o1 hi v, ownsRow_setCell_other h.o2 (a := ⟨g, i, none⟩) (hne h.o2) _, h.n02⟩
theorem OA.set2 {w : World} {B n i g k : Nat} {f0 f1 f2 : Nat → Value} {r0 r1 : Value} (h : OA w B n f0 f1 f2 r0 r1 (.slice (some ⟨g, 0, none⟩) n k)) (hi : i < n) (v : Value) : OA (w.setCell ⟨g, i, none⟩ v) B n f0 f1 (fun j => if j = i then v else f2 j) r0 r1 (.slice (some ⟨g, 0, none⟩) n k) := by
  refine ⟨ownsRow_setCell_other h.o0 (a := ⟨g, i, none⟩) (fun e => h.n02 g e rfl) _, ?_, by rw [← rowF_set]; exact own_setAt h.o2 hi v, h.n02⟩
  refine ownsRow_setCell_other h.o1 (a := ⟨g, i, none⟩) ?_ _
  rcases h.o2.2 with ⟨h1, _⟩ | ⟨g', cap', cur, e1, _, e3, _⟩
  · cases h1
  · simp only [Value.slice.injEq, Option.some.injEq, Addr.mk.injEq, and_true, true_and] at e1
    obtain ⟨rfl, rfl⟩ := e1
    exact own_ne h.o1 e3 (by decide)
theorem OA.blk0 {w : World} {B n : Nat} {f0 f1 f2 : Nat → Value} {r1 r2 : Value} {a : Option Addr} {k : Nat} (h : OA w B n f0 f1 f2 (.slice a n k) r1 r2) (hn : 0 < n) : ∃ g, a = some ⟨g, 0, none⟩ ∧ B ≤ g ∧ g < w.heap.size ∧ (∀ j, w.frozen? ⟨g, j, none⟩ = false) ∧ ∀ j, j < n → w.cell? ⟨g, j, none⟩ = some (f0 j) := by
  obtain ⟨g, cap, e⟩ := own_form' h.o0 hn
  simp only [Value.slice.injEq] at e
  obtain ⟨rfl, -, rfl⟩ := e
  exact ⟨g, rfl, (h.o0.lt g rfl).1, (h.o0.lt g rfl).2, own_free h.o0, fun j hj => by rw [h.o0.cellAt j (by omega), rowF_get hj]⟩
theorem OA.blk1 {w : World} {B n : Nat} {f0 f1 f2 : Nat → Value} {r0 r2 : Value} {a : Option Addr} {k : Nat} (h : OA w B n f0 f1 f2 r0 (.slice a n k) r2) (hn : 0 < n) : ∃ g, a = some ⟨g, 0, none⟩ ∧ B ≤ g ∧ g < w.heap.size ∧ (∀ j, w.frozen? ⟨g, j, none⟩ = false) ∧ ∀ j, j < n → w.cell? ⟨g, j, none⟩ = some (f1 j) := by
  obtain ⟨g, cap, e⟩ := own_form' h.o1 hn
  simp only [Value.slice.injEq] at e
  obtain ⟨rfl, -, rfl⟩ := e
  exact ⟨g, rfl, (h.o1.lt g rfl).1, (h.o1.lt g rfl).2, own_free h.o1, fun j hj => by rw [h.o1.cellAt j (by omega), rowF_get hj]⟩
theorem OA.blk2 {w : World} {B n : Nat} {f0 f1 f2 : Nat → Value} {r0 r1 : Value} {a : Option Addr} {k : Nat} (h : OA w B n f0 f1 f2 r0 r1 (.slice a n k)) (hn : 0 < n) : ∃ g, a = some ⟨g, 0, none⟩ ∧ B ≤ g ∧ g < w.heap.size ∧ (∀ j, w.frozen? ⟨g, j, none⟩ = false) ∧ ∀ j, j < n → w.cell? ⟨g, j, none⟩ = some (f2 j) := by
  obtain ⟨g, cap, e⟩ := own_form' h.o2 hn
  simp only [Value.slice.injEq] at e
  obtain ⟨rfl, -, rfl⟩ := e
  exact ⟨g, rfl, (h.o2.lt g rfl).1, (h.o2.lt g rfl).2, own_free h.o2, fun j hj => by rw [h.o2.cellAt j (by omega), rowF_get hj]⟩

section
variable {st : List Slt} {ga aa va : Option Addr} {gc ac vc : Nat}
abbrev sV (ga aa va : Option Addr) (n gc ac vc : Nat) : Value := .agg #[.slice ga n gc, .slice aa n ac, .slice va n vc]
/-- what a call leaves of a box below it -/
theorem box_cells {w w' : World} {k : Nat} {a b c : Value} {t : TypeId} (hb : Below w.heap.size w w') (h : w.heap[k]? = some (.cells #[a, b, c] t (0, 0))) : w'.heap[k]? = some (.cells #[a, b, c] t (0, 0)) := (hb.block _ (blk_lt h)).trans h
set_option maxRecDepth 100000 in
set_option maxHeartbeats 3200000 in
theorem rset_err (h v : Int) (w : World) (hr : RA w st ga aa va) (hn : st.length ≤ 1024) (he : findE st h ≠ 0) :
    Calls Tryd.prog 70 #[.agg #[.slice ga st.length gc, .slice aa st.length ac, .slice va st.length vc], .int .i64 h, .int .i64 v] w fun e w' => e = .returned (.tuple #[.agg #[.slice ga st.length gc, .slice aa st.length ac, .slice va st.length vc], .int .i64 (findE st h)]) ∧ Below w.heap.size w w' := by
  have bb := (below_box0 w (.cells #[.slice ga st.length gc, .slice aa st.length ac, .slice va st.length vc] 35)).trans ((below_box0 (w.alloc (.cells #[.slice ga st.length gc, .slice aa st.length ac, .slice va st.length vc] 35)) (.cells #[.slice none 0 0, .slice none 0 0, .slice none 0 0] 35)).mono (by simp))
  have HB := Lib.hid bb
  have HR := Lib.hid (hr.below bb)
  have hq := bne0_true he
  clear bb hr he
  go_enter Tryd.func70, Tryd.ntmps70
  go_wp2_with fail
  refine (rfind_ok h _ HR.out hn).mono ?_
  rintro e w1 ⟨rfl, b1⟩
  have k0 : w1.cell? ⟨w.heap.size, 0, none⟩ = some (.slice ga st.length gc) := (b1.cell (p := ⟨w.heap.size, 0, none⟩) (by simp; omega)).trans (by simp [go_sem])
  have k1 : w1.cell? ⟨w.heap.size, 1, none⟩ = some (.slice aa st.length ac) := (b1.cell (p := ⟨w.heap.size, 1, none⟩) (by simp; omega)).trans (by simp [go_sem])
  have k2 : w1.cell? ⟨w.heap.size, 2, none⟩ = some (.slice va st.length vc) := (b1.cell (p := ⟨w.heap.size, 2, none⟩) (by simp; omega)).trans (by simp [go_sem])
  have q0 : w1.cell? ⟨w.heap.size + 1, 0, none⟩ = some (.slice none 0 0) := (b1.cell (p := ⟨w.heap.size + 1, 0, none⟩) (by simp)).trans (by simp [go_sem])
  have q1 : w1.cell? ⟨w.heap.size + 1, 1, none⟩ = some (.slice none 0 0) := (b1.cell (p := ⟨w.heap.size + 1, 1, none⟩) (by simp)).trans (by simp [go_sem])
  have q2 : w1.cell? ⟨w.heap.size + 1, 2, none⟩ = some (.slice none 0 0) := (b1.cell (p := ⟨w.heap.size + 1, 2, none⟩) (by simp)).trans (by simp [go_sem])
  have qz : ∀ j, w1.frozen? ⟨w.heap.size + 1, j, none⟩ = false := fun j => (b1.frozen (p := ⟨w.heap.size + 1, j, none⟩) (by simp)).trans (by simp [go_sem])
  have HB1 := Lib.hid (HB.out.trans (b1.mono (by simp; omega)))
  clear b1
  go_wp2
  refine bodyPost_ret (v := .tuple #[.agg #[.slice ga st.length gc, .slice aa st.length ac, .slice va st.length vc], .int .i64 (findE st h)]) (by simp [results, Tryd.f70, go_sem, q0, q1, q2]) rfl ?_
  exact ⟨rfl, ((HB1.out.setCell (p := ⟨w.heap.size + 1, 0, none⟩) (by dsimp only; omega) _).setCell (p := ⟨w.heap.size + 1, 1, none⟩) (by dsimp only; omega) _).setCell (p := ⟨w.heap.size + 1, 2, none⟩) (by dsimp only; omega) _⟩
theorem findI_at {st : List Slt} {h : Int} {i : Nat} (he : findE st h = 0) (hi : slotI h = i) : findI st h = i := by unfold findI; rw [if_pos he, hi]
set_option maxRecDepth 100000 in
set_option maxHeartbeats 6400000 in
theorem rset_ok (h v : Int) (i : Nat) (w : World) (hr : RA w st ga aa va) (hI : IV st) (hZ : DZ st) (h1 : 1 ≤ st.length) (hn : st.length ≤ 1024) (he : findE st h = 0) (hi : slotI h = i) :
    Calls Tryd.prog 70 #[.agg #[.slice ga st.length gc, .slice aa st.length ac, .slice va st.length vc], .int .i64 h, .int .i64 v] w fun e w' => ∃ x, e = .returned (.tuple #[x, .int .i64 0]) ∧
      ROA w' x (st.set i ((st.getD i (0, false, undef)).1, (st.getD i (0, false, undef)).2.1, .int .i64 v)) ∧ Below w.heap.size w w' := by
  obtain ⟨i', hi', hlt, hal, _⟩ := Int.findE_zero he
  obtain rfl : i' = i := by omega
  have bb := (below_box0 w (.cells #[.slice ga st.length gc, .slice aa st.length ac, .slice va st.length vc] 35)).trans ((below_box0 (w.alloc (.cells #[.slice ga st.length gc, .slice aa st.length ac, .slice va st.length vc] 35)) (.cells #[.slice none 0 0, .slice none 0 0, .slice none 0 0] 35)).mono (by simp))
  have HB := Lib.hid bb
  have HR := Lib.hid (hr.below bb)
  have HF := Lib.hid (findI_at he hi)
  have HE := Lib.hid he
  have HI := Lib.hid hI
  have HZ := Lib.hid hZ
  obtain ⟨old, hold⟩ := hI i' hlt
  have hold : vF st i' = .int .i64 old := hold
  have HO := Lib.hid hold
  obtain ⟨n, hnn⟩ : ∃ n, st.length = n := ⟨_, rfl⟩
  have i0 : (0 : Int) ≤ (i' : Int) := by omega
  have i1 : (i' : Int) < (n : Int) := by omega
  have HN := Lib.hid hnn
  have hfd := fun W (hr : RA W st ga aa va) => rfind_ok (gc := gc) (ac := ac) (vc := vc) h W hr hn
  have hcd := fun W (hr : RA W st ga aa va) => copy_st (gc := gc) (ac := ac) (vc := vc) W hr HI.out HZ.out h1 hn
  simp only [hnn] at hfd hcd
  have HFD := Lib.hid hfd
  have HCD := Lib.hid hcd
  clear hfd hcd
  have h1' : 1 ≤ n := by omega
  have hl' : i' < n := by omega
  have HL := Lib.hid hlt
  clear bb hr he hi hi' hI hZ hold hal hlt
  rw [hnn] at HB HR ⊢
  clear hnn
  go_enter Tryd.func70, Tryd.ntmps70
  go_wp2_with fail
  refine (HFD.out _ HR.out).mono ?_
  rintro e w1 ⟨rfl, b1⟩
  rw [HF.out, HE.out]
  have k0 : w1.cell? ⟨w.heap.size, 0, none⟩ = some (.slice ga n gc) := (b1.cell (p := ⟨w.heap.size, 0, none⟩) (by simp; omega)).trans (by simp [go_sem])
  have k1 : w1.cell? ⟨w.heap.size, 1, none⟩ = some (.slice aa n ac) := (b1.cell (p := ⟨w.heap.size, 1, none⟩) (by simp; omega)).trans (by simp [go_sem])
  have k2 : w1.cell? ⟨w.heap.size, 2, none⟩ = some (.slice va n vc) := (b1.cell (p := ⟨w.heap.size, 2, none⟩) (by simp; omega)).trans (by simp [go_sem])
  have hx1 : w1.heap[w.heap.size + 1]? = some (.cells #[.slice none 0 0, .slice none 0 0, .slice none 0 0] 35 (0, 0)) := (b1.block _ (by simp)).trans (by have := heap_alloc_new (w.alloc (.cells #[.slice ga n gc, .slice aa n ac, .slice va n vc] 35)) (.cells #[.slice none 0 0, .slice none 0 0, .slice none 0 0] 35); rwa [World.size_alloc] at this)
  have HB1 := Lib.hid (HB.out.trans (b1.mono (by simp; omega)))
  have HR1 := Lib.hid (HR.out.below b1)
  have HX1 := Lib.hid hx1
  clear b1 hx1
  go_wp2_with fail
  refine (HCD.out w1 HR1.out).mono ?_
  rintro e w2 ⟨a0, q0, a1, q1, a2, q2, rfl, o2, b2⟩
  have HX2 := Lib.hid ((b2.block _ (blk_lt HX1.out)).trans HX1.out)
  have HB2 := Lib.hid (HB1.out.trans (b2.mono HB1.out.size))
  obtain ⟨g, hg, hgB, hgl, hgz, hgc⟩ := o2.blk2 (by omega)
  subst hg
  have hs1 := blk_lt HX1.out
  have hgc' := hgc i' hl'
  rw [HO.out] at hgc'
  have gz := hgz i'
  have HO3 := Lib.hid (o2.set2 hl' (.int .i64 v))
  have x2 := HX2.out
  have qa : w2.cell? ⟨w.heap.size + 1, 0, none⟩ = some (.slice none 0 0) := by rw [cell_of_block x2]; rfl
  have qb : w2.cell? ⟨w.heap.size + 1, 1, none⟩ = some (.slice none 0 0) := by rw [cell_of_block x2]; rfl
  have qc : w2.cell? ⟨w.heap.size + 1, 2, none⟩ = some (.slice none 0 0) := by rw [cell_of_block x2]; rfl
  have qz : ∀ j, w2.frozen? ⟨w.heap.size + 1, j, none⟩ = false := fun j => unfrozen_of_block x2 j
  have hs2 : w.heap.size + 1 < w2.heap.size := blk_lt x2
  have ne1 : g ≠ w2.heap.size := by omega
  have ne2 : g ≠ w.heap.size + 1 := by omega
  have ne3 : w2.heap.size ≠ g := by omega
  have ne4 : w.heap.size + 1 ≠ g := by omega
  have HHG := Lib.hid hgB
  clear b2 o2 hgc hgz x2 hgB
  go_wp2
  refine bodyPost_ret (v := .tuple #[.agg #[.slice a0 n q0, .slice a1 n q1, .slice (some ⟨g, 0, none⟩) n q2], .int .i64 0]) (by simp [results, Tryd.f70, go_sem, qa, qb, qc, hs2, World.size_setCell]) rfl ?_
  have hk := ((((HB2.out.setCell (p := ⟨g, i', none⟩) (by dsimp only; have := HHG.out; have := HB1.out.size; omega) (.int .i64 v)).setCell (p := ⟨w.heap.size + 1, 0, none⟩) (by dsimp only; omega) (.slice a0 n q0)).setCell (p := ⟨w.heap.size + 1, 1, none⟩) (by dsimp only; omega) (.slice a1 n q1)).setCell (p := ⟨w.heap.size + 1, 2, none⟩) (by dsimp only; omega) (.slice (some ⟨g, 0, none⟩) n q2)).alloc (by simp only [World.size_setCell]; omega) (.cells #[.slice a0 n q0, .slice a1 n q1, .slice (some ⟨g, 0, none⟩) n q2] 35)
  refine ⟨_, rfl, ?_, hk⟩
  have o4 := ((HO3.out.low (k := w.heap.size + 1) (j := 0) (by have := HB1.out.size; omega) (.slice a0 n q0)).low (k := w.heap.size + 1) (j := 1) (by have := HB1.out.size; omega) (.slice a1 n q1)).low (k := w.heap.size + 1) (j := 2) (by have := HB1.out.size; omega) (.slice (some ⟨g, 0, none⟩) n q2)
  obtain rfl := HN.out
  have hlt := HL.out
  refine OA.roa (by simp) ((o4.below (below_box0 _ _)).congr (fun j hj => ?_) (fun j hj => ?_) (fun j hj => ?_))
  · unfold zI; rw [gF_set hlt]; by_cases e : j = i' <;> simp [e, gF]
  · unfold zB; rw [aF_set hlt]; by_cases e : j = i' <;> simp [e, aF]
  · rw [vF_set hlt]
end
end Go.Proofs.YtpaecmpiokkdnaaDoor
