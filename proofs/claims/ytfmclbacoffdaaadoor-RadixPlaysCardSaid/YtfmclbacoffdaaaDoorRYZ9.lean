/- The radix map: the methods, of no map. | The radix map: New of the reference. | The radix map: RadixPlays returns true. | The frame of a statement of this seat: the table of math/bits as the row lists it. | An argument of type RmDesc, as a row hands it. | The arguments of types []Call and Call of chapter 07, as a row hands them. -/
import Derived.Test.YtfmclbacoffdaaaDoorRWZ2
import Derived.Test.YtfmclbacoffdaaaDoorRYZ7
import Derived.BigFrameIn
import Derived.Test.YtfmclbacoffdaaaDoorRYZ8
import Derived.Test.YtfmclbacoffdaaaDoorRSZ5
import Derived.Test.YtfmclbacoffdaaaDoorRSZ4
import Derived.Test.YtfmclbacoffdaaaDoorCards
import Derived.Test.YtfmclbacoffdaaaDoorTie
import Derived.Test.YtfmclbacoffdaaaDoorRZ2
import Derived.ProofKit
import Derived.OpenShut
import Derived.Deep.DeepHandedRow
import Derived.Lib.LaidTab
import Derived.Lib.SmallJoins
import Derived.Deep.Fields
import Derived.Test.YtfmclbacoffdaaaDoorRZ10
import Derived.Deep.Slices
namespace Go.Proofs.YtfmclbacoffdaaaDoor
open Go.RowKit Go.Sort Go.Joins Go.Shelf
attribute [local go_sem] cell_grow frozen_grow size_grow Oper.semAt_some

theorem nmade (w : World) : Calls Tryd.prog 41 #[.pointer none] w fun e w' => e = .returned (.bool false) ∧ w = w' := by
  go_enter Tryd.func41, Tryd.ntmps41
  go_wp2
  go_ret
  exact ⟨rfl, rfl⟩
theorem npart (f t : Int) (w : World) : Calls Tryd.prog 45 #[.pointer none, .int .i64 f, .int .i64 t] w fun e w' => e = .returned (.int .i64 1) ∧ w = w' := by
  go_enter Tryd.func45, Tryd.ntmps45
  go_wp2_with fail
  refine (nmade _).mono ?_
  rintro e w1 ⟨rfl, rfl⟩
  go_wp2
  go_ret
  exact ⟨rfl, rfl⟩
theorem nnodes (w : World) : Calls Tryd.prog 20 #[.pointer none] w fun e w' => e = .returned (.int .i64 0) ∧ w = w' := by
  go_enter Tryd.func20, Tryd.ntmps20
  go_wp2_with fail
  refine (nmade _).mono ?_
  rintro e w1 ⟨rfl, rfl⟩
  go_wp2
  go_ret
  exact ⟨rfl, rfl⟩
set_option maxRecDepth 100000 in
set_option maxHeartbeats 1600000 in
theorem nclear (f t : Int) (w : World) : Calls Tryd.prog 22 #[.pointer none, .int .i64 f, .int .i64 t] w fun e w' => e = .returned (.int .i64 1) ∧ w = w' := by
  go_enter Tryd.func22, Tryd.ntmps22
  go_wp2_with fail
  refine (npart f t _).mono ?_
  rintro e w1 ⟨rfl, rfl⟩
  go_wp2
  go_ret
  exact ⟨rfl, rfl⟩
set_option maxRecDepth 100000 in
set_option maxHeartbeats 1600000 in
theorem nset (f t o s d : Int) (z : Bool) (w : World) : Calls Tryd.prog 32 #[.pointer none, .int .i64 f, .int .i64 t, dsV o s d z] w fun e w' => e = .returned (.int .i64 1) ∧ Below w.heap.size w w' := by
  have HB := Lib.hid (below_box0 w (.cells #[.int .i64 o, .int .i64 s, .int .i64 d, .bool z] 23))
  go_enter Tryd.func32, Tryd.ntmps32
  go_wp2_with fail
  refine (npart f t _).mono ?_
  rintro e w1 ⟨rfl, rfl⟩
  go_wp2
  go_ret
  exact ⟨rfl, HB.out⟩
set_option maxRecDepth 100000 in
set_option maxHeartbeats 1600000 in
theorem nget (p : Int) (w : World) : Calls Tryd.prog 19 #[.pointer none, .int .i64 p] w fun e w' => e = .returned (.tuple #[dsV 0 0 0 false, .int .i64 1]) ∧ Below w.heap.size w w' := by
  have HB := Lib.hid (below_box0 w (.cells #[.int .i64 0, .int .i64 0, .int .i64 0, .bool false] 23))
  have HR := Lib.hid (heap_alloc_new w (.cells #[.int .i64 0, .int .i64 0, .int .i64 0, .bool false] 23))
  go_enter Tryd.func19, Tryd.ntmps19
  go_wp2_with fail
  generalize World.alloc _ _ = W0 at HB HR ⊢
  refine (nmade _).mono ?_
  rintro e w1 ⟨rfl, rfl⟩
  have r0 : W0.cell? ⟨w.heap.size, 0, none⟩ = some (.int .i64 0) := by rw [cell_of_block HR.out]; rfl
  have r1 : W0.cell? ⟨w.heap.size, 1, none⟩ = some (.int .i64 0) := by rw [cell_of_block HR.out]; rfl
  have r2 : W0.cell? ⟨w.heap.size, 2, none⟩ = some (.int .i64 0) := by rw [cell_of_block HR.out]; rfl
  have r3 : W0.cell? ⟨w.heap.size, 3, none⟩ = some (.bool false) := by rw [cell_of_block HR.out]; rfl
  have rf : ∀ k, W0.frozen? ⟨w.heap.size, k, none⟩ = false := fun k => unfrozen_of_block HR.out k
  go_wp2
  refine bodyPost_ret (v := .tuple #[dsV 0 0 0 false, .int .i64 1]) (by simp [results, Tryd.results19, go_sem, r0, r1, r2, r3]) rfl ?_
  exact ⟨rfl, (((HB.out.setCell (p := ⟨w.heap.size, 0, none⟩) (by dsimp only; omega) _).setCell (p := ⟨w.heap.size, 1, none⟩) (by dsimp only; omega) _).setCell (p := ⟨w.heap.size, 2, none⟩) (by dsimp only; omega) _).setCell (p := ⟨w.heap.size, 3, none⟩) (by dsimp only; omega) _⟩
set_option maxRecDepth 100000 in
set_option maxHeartbeats 1600000 in
theorem nsave (w : World) : Calls Tryd.prog 24 #[.pointer none] w fun e w' => e = .returned (.agg #[.int .i64 0, .slice none 0 0]) ∧ Below w.heap.size w w' := by
  have HB := Lib.hid (below_box0 w (.cells #[.int .i64 0, .slice none 0 0] 45))
  have HR := Lib.hid (heap_alloc_new w (.cells #[.int .i64 0, .slice none 0 0] 45))
  go_enter Tryd.func24, Tryd.ntmps24
  go_wp2_with fail
  generalize World.alloc _ _ = W0 at HB HR ⊢
  refine (nmade _).mono ?_
  rintro e w1 ⟨rfl, rfl⟩
  have r0 : W0.cell? ⟨w.heap.size, 0, none⟩ = some (.int .i64 0) := by rw [cell_of_block HR.out]; rfl
  have r1 : W0.cell? ⟨w.heap.size, 1, none⟩ = some (.slice none 0 0) := by rw [cell_of_block HR.out]; rfl
  have rf : ∀ k, W0.frozen? ⟨w.heap.size, k, none⟩ = false := fun k => unfrozen_of_block HR.out k
  go_wp2
  refine bodyPost_ret (v := .agg #[.int .i64 0, .slice none 0 0]) (by simp [results, Tryd.results24, go_sem, r0, r1]) rfl ?_
  exact ⟨rfl, (HB.out.setCell (p := ⟨w.heap.size, 0, none⟩) (by dsimp only; omega) _).setCell (p := ⟨w.heap.size, 1, none⟩) (by dsimp only; omega) _⟩
set_option maxRecDepth 100000 in
set_option maxHeartbeats 1600000 in
theorem nowned (o : Int) (w : World) : Calls Tryd.prog 27 #[.pointer none, .int .i64 o] w fun e w' => e = .returned (.tuple #[.slice none 0 0, .int .i64 1]) ∧ Below w.heap.size w w' := by
  have HB := Lib.hid (below_box0 w (.cells #[.int .i64 o] 3))
  go_enter Tryd.func27, Tryd.ntmps27
  go_wp2_with fail
  refine (nmade _).mono ?_
  rintro e w1 ⟨rfl, rfl⟩
  go_wp2
  go_ret2
  exact ⟨rfl, HB.out⟩
/-! no page is walked -/
def GN (_ : List Nat) (_ : Nat) : Prop := False
def SN (xs : List Nat) : Prop := xs = []
def encN (x : Nat) : Array Value := #[.int .i64 x, dsV 0 0 0 false]
set_option maxRecDepth 100000 in
set_option maxHeartbeats 1600000 in
theorem nwalk_seq (d Bm Bf : Nat) (I : List Nat → World → Prop) (hI : ∀ pre W, I pre W → W.cell? ⟨Bm, 0, none⟩ = some (.pointer none)) (w : World) :
    SeqI Fence.wide d Tryd.prog 50 #[.pointer (some ⟨Bm, 0, none⟩), .pointer (some ⟨Bf, 0, none⟩)] encN I GN SN w := by
  intro l J Jx W _ hJ _ hJI hY h0
  have hc0 := hI _ _ (hJI _ _ h0)
  have HM := Lib.hid (nmade W)
  have H0 := Lib.hid h0
  clear h0
  refine callsIn_of_wp Tryd.func50 rfl trivial ?_ rfl
  simp only [Tryd.ntmps50, List.size_toArray, List.length_cons, List.length_nil, Nat.reduceAdd, Nat.reduceSub, Array.replicate_succ, Array.replicate_zero, List.push_toArray, List.append_toArray, List.nil_append, List.cons_append]
  gi_wp2_with (refine ⟨trivial, wide_any' _, (callsIn_wide.2 HM.out).mono ?_⟩; rintro e w1 ⟨rfl, rfl⟩)
  refine bodyPost_ret (results_none rfl _ _ _) rfl ?_
  exact ⟨⟨_, rfl⟩, .inl ⟨[], rfl, H0.out⟩⟩
theorem wpIn_iter_none {F : Fence} {n : Nat} {P : Program} {g : Operand} {ps : Array Tmp} {assign body : Code} {Q : Exit → Act → World → Prop} {a : Act} {w : World}
    (hro : F.round = none) (h1 : 1 ≤ n) {gf : Nat} {lb : Array Value} (hg : a.eval g = .func (.func gf) #[] lb) (hFg : F.fn gf) (eg : ∀ args w, (callFunc gf args).run P w = .ok (.enter gf args) w)
    (I : List Nat → World → Prop) (hseq : SeqI F (n - 1) P gf lb encN I GN SN w)
    (hps : ∀ x, (encN x).size = ps.size) (hI : OwnFrom w.heap.size I) (h0 : I [] w)
    (hdone : ∀ (D : Nat) (xs : List Nat) (W : World), w.heap.size ≤ D → SN xs → I xs W → W.heap[D]? = some (.deferred (some [])) → Q .normal { a with defers := { target := .collected D, args := #[] } :: a.defers } W) :
    (Code.rangeFunc g ps assign body).wpIn F n P Q a w :=
  wpIn_iter hro h1 hg hFg eg I hseq hps (fun _ _ _ => False) hI (fun _ _ _ _ _ hs _ _ => hs) h0 (fun _ _ _ => False) (fun _ _ _ _ _ _ h _ _ => h.elim)
    (fun _ _ _ _ _ _ hG _ => hG.elim) (fun _ _ _ _ _ _ _ _ hG => hG.elim) hdone (fun _ _ _ _ _ h _ => h.elim)
/-- what lies in memory: a box for the answer, the box of the map -/
structure NlW (w W : World) (t : TypeId) : Prop where
  b1 : W.heap[w.heap.size]? = some (.cells #[.slice none 0 0] t (0, 0))
  b2 : W.heap[w.heap.size + 1]? = some (.cells #[.pointer none] 33 (0, 0))
  k : Below w.heap.size w W
theorem NlW.kept {w W W' : World} {t : TypeId} (h : NlW w W t) {row : Option Nat} {Z : Nat} (hZ : w.heap.size ≤ Z) (hg : W.grownBy W' row) (hr : ∀ r, row = some r → Z ≤ r ∧ ∃ o : Obj, W.heap[r]? = some o ∧ o.isCells = false) : NlW w W' t := by
  have hr2 := fun r e => (hr r e).2
  exact ⟨blk_kept7 h.b1 hg hr2, blk_kept7 h.b2 hg hr2, h.k.grown hg h.k.size (fun r e => by have := (hr r e).1; omega)⟩
theorem nl_start (w : World) (t : TypeId) (f : Int) : NlW w (((w.alloc (.cells #[.slice none 0 0] t)).alloc (.cells #[.pointer none] 33)).alloc (.cells #[.int .i64 f] 3)) t := by
  have N0 : ∀ (W : World) (A : Array Value) (t : TypeId) (k : Nat), k = W.heap.size → (W.alloc (.cells A t)).heap[k]? = some (.cells A t (0, 0)) := fun W A t k e => by rw [e]; exact heap_alloc_new W _
  refine ⟨?_, ?_, (((Below.refl _ w).alloc (Nat.le_refl _) _).alloc (by simp) _).alloc (by simp; omega) _⟩
  · refine (Below.heap_alloc _ _ _ (by simp <;> omega)).trans ?_; refine (Below.heap_alloc _ _ _ (by simp <;> omega)).trans ?_; exact heap_alloc_new w _
  · refine (Below.heap_alloc _ _ _ (by simp <;> omega)).trans ?_; exact N0 _ _ _ _ (by simp)
set_option maxRecDepth 100000 in
set_option maxHeartbeats 3200000 in
theorem nruns (w : World) :
    Calls Tryd.prog 25 #[.pointer none] w fun e w' => e = .returned (.slice none 0 0) ∧ Below w.heap.size w w' := by
  refine (callsIn_wide (n := 4)).1 ?_
  refine callsIn_of_wp_marks Tryd.func25 rfl trivial ?_ rfl
  simp only [Tryd.ntmps25, List.size_toArray, List.length_cons, List.length_nil, Nat.reduceAdd, Nat.reduceSub, Array.replicate_succ, Array.replicate_zero, List.push_toArray, List.append_toArray, List.nil_append, List.cons_append]
  gi_wp2_with fail
  refine ⟨trivial, (callsIn_wide.2 (walk_ok _ _ _)).mono ?_⟩
  rintro e w2 ⟨rfl, hw2⟩
  have hRM : NlW w w2 47 := by rw [← hw2]; exact nl_start _ _ _
  have hsz2 : w.heap.size + 3 ≤ w2.heap.size := by rw [← hw2]; simp
  have HRM := Lib.hid hRM
  clear hw2 hRM
  gi_wp2
  refine wpIn_iter_none rfl (by omega) (gf := 50) (lb := #[.pointer (some ⟨w.heap.size + 1, 0, none⟩), .pointer (some ⟨w.heap.size + 1 + 1, 0, none⟩)]) rfl trivial (enters_of Tryd.func50 (by kernel_rfl) rfl)
    (fun pre W => NlW w W 47) (nwalk_seq _ (w.heap.size + 1) (w.heap.size + 1 + 1) _ ?keep _) (fun _ => rfl) ?own ?start ?done
  case keep =>
    rintro pre W hM
    rw [cell_of_block hM.b2]; rfl
  case own =>
    rintro pre A C row hM hg hr
    exact hM.kept (by omega) hg hr
  case start => exact HRM.out
  case done =>
    rintro D xs W hD hS2 hM hK
    have k1 : W.cell? ⟨w.heap.size, 0, none⟩ = some (.slice none 0 0) := by rw [cell_of_block hM.b1]; rfl
    have HM2 := Lib.hid hM
    have HK := Lib.hid hK
    clear hM hK hS2
    gi_wp2
    refine ⟨by simp, .inl ⟨_, _, rfl, run_takeDeferred HK.out, ?_⟩⟩
    have hg := grownBy_putObj' W D (.deferred none)
    have hsz := HM2.out.k.size
    refine ⟨.slice none 0 0, ?_, rfl, HM2.out.k.grown hg hsz (fun r e => by cases e; omega)⟩
    simp [results, Tryd.results25, go_sem]
set_option maxRecDepth 100000 in
set_option maxHeartbeats 3200000 in
theorem nwalked (w : World) :
    Calls Tryd.prog 34 #[.pointer none, .int .i64 0] w fun e w' => e = .returned (.slice none 0 0) ∧ Below w.heap.size w w' := by
  refine (callsIn_wide (n := 4)).1 ?_
  refine callsIn_of_wp_marks Tryd.func34 rfl trivial ?_ rfl
  simp only [Tryd.ntmps34, List.size_toArray, List.length_cons, List.length_nil, Nat.reduceAdd, Nat.reduceSub, Array.replicate_succ, Array.replicate_zero, List.push_toArray, List.append_toArray, List.nil_append, List.cons_append]
  gi_wp2_with fail
  refine ⟨trivial, (callsIn_wide.2 (walk_ok _ _ _)).mono ?_⟩
  rintro e w2 ⟨rfl, hw2⟩
  have hRM : NlW w w2 52 := by rw [← hw2]; exact nl_start _ _ _
  have hsz2 : w.heap.size + 3 ≤ w2.heap.size := by rw [← hw2]; simp
  have HRM := Lib.hid hRM
  clear hw2 hRM
  gi_wp2
  refine wpIn_iter_none rfl (by omega) (gf := 50) (lb := #[.pointer (some ⟨w.heap.size + 1, 0, none⟩), .pointer (some ⟨w.heap.size + 1 + 1, 0, none⟩)]) rfl trivial (enters_of Tryd.func50 (by kernel_rfl) rfl)
    (fun pre W => NlW w W 52) (nwalk_seq _ (w.heap.size + 1) (w.heap.size + 1 + 1) _ ?keep _) (fun _ => rfl) ?own ?start ?done
  case keep =>
    rintro pre W hM
    rw [cell_of_block hM.b2]; rfl
  case own =>
    rintro pre A C row hM hg hr
    exact hM.kept (by omega) hg hr
  case start => exact HRM.out
  case done =>
    rintro D xs W hD hS2 hM hK
    have k1 : W.cell? ⟨w.heap.size, 0, none⟩ = some (.slice none 0 0) := by rw [cell_of_block hM.b1]; rfl
    have HM2 := Lib.hid hM
    have HK := Lib.hid hK
    clear hM hK hS2
    gi_wp2
    refine ⟨by simp, .inl ⟨_, _, rfl, run_takeDeferred HK.out, ?_⟩⟩
    have hg := grownBy_putObj' W D (.deferred none)
    have hsz := HM2.out.k.size
    refine ⟨.slice none 0 0, ?_, rfl, HM2.out.k.grown hg hsz (fun r e => by cases e; omega)⟩
    simp [results, Tryd.results34, go_sem]
end Go.Proofs.YtfmclbacoffdaaaDoor

namespace Go.Proofs.YtfmclbacoffdaaaDoor
open Go.RowKit Go.Sort Go.Joins
attribute [local go_sem] cell_grow frozen_grow size_grow
theorem make16i (w : World) : (Instr.makeSlice 52 (.int .i64 16) (.int .i64 16)).run Tryd.prog w = .ok (.slice (some ⟨w.heap.size, 0, none⟩) 16 16) (w.alloc (.cells #[.int .i64 0, .int .i64 0, .int .i64 0, .int .i64 0, .int .i64 0, .int .i64 0, .int .i64 0, .int .i64 0, .int .i64 0, .int .i64 0, .int .i64 0, .int .i64 0, .int .i64 0, .int .i64 0, .int .i64 0, .int .i64 0] 3)) :=
  run_make_ints7 16 (by decide) w
/-- what New holds after i nodes -/
structure NwL (w wr : World) (n i : Nat) (v : Value) (K L : Nat → Value) (S : List Rn) : Prop where
  rs : wr.heap[w.heap.size]? = some (.cells #[.int .i64 0, .slice none 0 0] 45 (0, 0))
  bx : wr.heap[w.heap.size + 1 + 1 + 1]? = some (.cells #[.int .i64 (n : Int), v] 45 (0, 0))
  st : OSt wr (w.heap.size + 1) v K L (S.take i)
  k : Below w.heap.size w wr
theorem NwL.next {w wr Wc w9 : World} {n i : Nat} {v v' : Value} {K L : Nat → Value} {S : List Rn} (h : NwL w wr n i v K L S) (hb : Below wr.heap.size wr Wc)
    (hr : w9.ownsRow (w.heap.size + 1) 60 3 v' (i + 1) (rnC K L (S.take i) ++ [.int .i64 (-1), .slice none 0 0, .slice none 0 0])) (hg : Wc.grownBy w9 v.ownBlock) (hi : i < S.length) (hx : S.take (i + 1) = S.take i ++ [rnOf (nd0 (-1))]) :
    NwL w (w9.setCell ⟨w.heap.size + 1 + 1 + 1, 1, none⟩ v') n (i + 1) v' (updV K i (.slice none 0 0)) (updV L i (.slice none 0 0)) S := by
  have hlen : (S.take i).length = i := by rw [List.length_take]; omega
  have hst := h.st.below hb
  have hlt := blk_lt h.bx
  have hrl := blk_lt h.rs
  have hws := hb.size
  have hne3 : v.ownBlock ≠ some (w.heap.size + 1 + 1 + 1) := own_ty h.st.row h.bx t_ns
  have hne0 : v.ownBlock ≠ some w.heap.size := fun e => by have := (h.st.row.lt _ e).1; omega
  have hbx : w9.heap[w.heap.size + 1 + 1 + 1]? = some (.cells #[.int .i64 (n : Int), v] 45 (0, 0)) := by
    rw [hg.block _ (by omega) (fun e => hne3 e.symm), hb.block _ hlt]; exact h.bx
  have hrs : w9.heap[w.heap.size]? = some (.cells #[.int .i64 0, .slice none 0 0] 45 (0, 0)) := by
    rw [hg.block _ (by omega) (fun e => hne0 e.symm), hb.block _ hrl]; exact h.rs
  have hnew := OSt.snoc (w' := w9) (v' := v') (k := .slice none 0 0) (l := .slice none 0 0) (x := rnOf (nd0 (-1))) hst (World.ownsRow_nil _ _ _ _) (World.ownsRow_nil _ _ _ _)
    (fun j hj g e e2 => by cases e2) (fun j hj g e e2 => by cases e2)
    (by rw [hlen]; exact hr) hg
  rw [hlen, ← hx] at hnew
  refine ⟨?_, ?_, hnew.setBox hbx _, ?_⟩
  · rw [Below.heap_setCell _ _ _ _ (by dsimp only; omega)]; exact hrs
  · rw [setCell_block hbx]; simp
  · have h1 : Below w.heap.size w Wc := h.k.trans (hb.mono h.k.size)
    exact (h1.grown hg (by omega) (fun k hk => by have := (h.st.row.lt k hk).1; omega)).setCell (p := ⟨w.heap.size + 1 + 1 + 1, 1, none⟩) (by dsimp only; omega) _
section
variable {w : World} {n : Nat}
theorem nw_start (w : World) (n : Nat) (h1 : 1 ≤ n) :
    ∃ K L, NwL w ((((w.alloc (.cells #[.int .i64 0, .slice none 0 0] 45)).alloc (.cells #[.int .i64 0, .int .i64 0, .int .i64 0, .int .i64 0, .int .i64 0, .int .i64 0, .int .i64 0, .int .i64 0, .int .i64 0, .int .i64 0, .int .i64 0, .int .i64 0, .int .i64 0, .int .i64 0, .int .i64 0, .int .i64 0] 3)).alloc (.cells #[.int .i64 0, .slice (some ⟨w.heap.size + 1, 0, none⟩) 16 16, .slice none 0 0] 60)).alloc (.cells #[.int .i64 (n : Int), .slice (some ⟨w.heap.size + 1 + 1, 0, none⟩) 1 1] 45))
      n 1 (.slice (some ⟨w.heap.size + 1 + 1, 0, none⟩) 1 1) K L (stS (newM n)) := by
  have N0 : ∀ (W : World) (A : Array Value) (t : TypeId) (k : Nat), k = W.heap.size → (W.alloc (.cells A t)).heap[k]? = some (.cells A t (0, 0)) := fun W A t k e => by rw [e]; exact heap_alloc_new W _
  have e1 : (stS (newM n)).take 1 = [rnOf (nd0 0)] := by
    have hl : 0 < (newM n).st.length := by rw [newM_len]; omega
    rw [stS_take (newM n) hl, newM_N h1 (by omega)]
    simp
  have o1 := World.ownsRow_lit (base := w.heap.size + 1) (e := 3) (size := 1) (w.alloc (.cells #[.int .i64 0, .slice none 0 0] 45)) #[.int .i64 0, .int .i64 0, .int .i64 0, .int .i64 0, .int .i64 0, .int .i64 0, .int .i64 0, .int .i64 0, .int .i64 0, .int .i64 0, .int .i64 0, .int .i64 0, .int .i64 0, .int .i64 0, .int .i64 0, .int .i64 0] 16 (by simp) (by decide) rfl
  have o2 := World.ownsRow_lit (base := w.heap.size + 1) (e := 60) (size := 3) ((w.alloc (.cells #[.int .i64 0, .slice none 0 0] 45)).alloc (.cells #[.int .i64 0, .int .i64 0, .int .i64 0, .int .i64 0, .int .i64 0, .int .i64 0, .int .i64 0, .int .i64 0, .int .i64 0, .int .i64 0, .int .i64 0, .int .i64 0, .int .i64 0, .int .i64 0, .int .i64 0, .int .i64 0] 3)) #[.int .i64 0, .slice (some ⟨w.heap.size + 1, 0, none⟩) 16 16, .slice none 0 0] 1 (by simp) (by decide) rfl
  rw [World.size_alloc] at o1
  rw [World.size_alloc, World.size_alloc] at o2
  refine ⟨fun _ => .slice (some ⟨w.heap.size + 1, 0, none⟩) 16 16, fun _ => .slice none 0 0, ?_, ?_, ?_, ?_⟩
  · refine (Below.heap_alloc _ _ _ (by simp <;> omega)).trans ?_; refine (Below.heap_alloc _ _ _ (by simp <;> omega)).trans ?_; refine (Below.heap_alloc _ _ _ (by simp)).trans ?_; exact heap_alloc_new w _
  · exact N0 _ _ _ _ (by simp)
  · rw [e1]
    refine ⟨o2.alloc _, fun j hj => ?_, fun j hj => ?_, fun i j hi hj hne => ?_, fun i j hi hj hne => ?_⟩
    · obtain rfl : j = 0 := by simp at hj; omega
      exact (o1.alloc _).alloc _
    · obtain rfl : j = 0 := by simp at hj; omega
      exact World.ownsRow_nil _ _ _ _
    · simp at hi hj; omega
    · simp at hi hj; omega
  · exact ((((Below.refl _ w).alloc (Nat.le_refl _) _).alloc (by simp) _).alloc (by simp; omega) _).alloc (by simp; omega) _
set_option maxRecDepth 100000 in
set_option maxHeartbeats 1600000 in
theorem rnew_bad {n : Int} (hn : n < 1 ∨ 145 < n) (w : World) :
    Calls Tryd.prog 31 #[.int .i64 n] w fun e w' => e = .returned (.tuple #[.agg #[.int .i64 0, .slice none 0 0], .int .i64 7]) ∧ Below w.heap.size w w' := by
  have HB := Lib.hid (below_box0 w (.cells #[.int .i64 0, .slice none 0 0] 45))
  have HR := Lib.hid (heap_alloc_new w (.cells #[.int .i64 0, .slice none 0 0] 45))
  have hd : (decide (1 ≤ n) && decide (n ≤ 145)) = false := by
    rcases hn with c | c
    · rw [decide_eq_false (show ¬ 1 ≤ n by omega)]; rfl
    · rw [decide_eq_false (show ¬ n ≤ 145 by omega), Bool.and_false]
  have HBT := Lib.hid (btw_ok n 1 145)
  rw [hd] at HBT
  clear hd hn
  go_enter Tryd.func31, Tryd.ntmps31
  go_wp2_with fail
  generalize World.alloc _ _ = W0 at HB HR ⊢
  refine (HBT.out _).mono ?_
  rintro e w1 ⟨rfl, rfl⟩
  have r0 : W0.cell? ⟨w.heap.size, 0, none⟩ = some (.int .i64 0) := by rw [cell_of_block HR.out]; rfl
  have r1 : W0.cell? ⟨w.heap.size, 1, none⟩ = some (.slice none 0 0) := by rw [cell_of_block HR.out]; rfl
  have rf : ∀ k, W0.frozen? ⟨w.heap.size, k, none⟩ = false := fun k => unfrozen_of_block HR.out k
  go_wp2
  refine bodyPost_ret (v := .tuple #[.agg #[.int .i64 0, .slice none 0 0], .int .i64 7]) (by simp [results, Tryd.results31, go_sem, r0, r1]) rfl ?_
  exact ⟨rfl, (HB.out.setCell (p := ⟨w.heap.size, 0, none⟩) (by dsimp only; omega) _).setCell (p := ⟨w.heap.size, 1, none⟩) (by dsimp only; omega) _⟩
set_option maxRecDepth 100000 in
set_option maxHeartbeats 3200000 in
theorem rnew_ok (h1 : 1 ≤ n) (h2 : n ≤ 145) (w : World) :
    Calls Tryd.prog 31 #[.int .i64 n] w fun e w' => ∃ g c, e = .returned (.tuple #[.agg #[.int .i64 n, .slice (some ⟨g, 0, none⟩) n c], .int .i64 0]) ∧ (∃ K L, OSt w' w.heap.size (.slice (some ⟨g, 0, none⟩) n c) K L (stS (newM n))) ∧ Below w.heap.size w w' := by
  obtain ⟨i0, hi0, hz0, hz1, hz2'⟩ := info_parts info_rmnode
  have hd : (decide ((1 : Int) ≤ (n : Int)) && decide ((n : Int) ≤ 145)) = true := by
    rw [decide_eq_true (show (1 : Int) ≤ (n : Int) by omega), decide_eq_true (show (n : Int) ≤ 145 by omega)]; rfl
  have HBT := Lib.hid (btw_ok n 1 145)
  rw [hd] at HBT
  have hmk := make16i
  obtain ⟨K, L, hL⟩ := nw_start w n h1
  have HL := Lib.hid hL
  clear hd hL
  go_enter Tryd.func31, Tryd.ntmps31
  go_wp2_with fail
  refine (HBT.out _).mono ?_
  rintro e w1 ⟨rfl, rfl⟩
  go_upto_region 4 with fail
  generalize World.alloc (World.alloc _ _) _ = W0 at HL ⊢
  clear hmk HBT
  go_wp2
  go_loopw [5] (fun y wr => ∃ (i : Nat) (v : Value) (K L : Nat → Value), 1 ≤ i ∧ i ≤ n ∧ y = .int .i64 i ∧ Hid (NwL w wr n i v K L (stS (newM n)))) (fun y _ => n - (intOf y).toNat)
  case atStart => exact ⟨1, _, _, _, Nat.le_refl _, h1, rfl, HL⟩
  case round =>
    clear HL
    obtain ⟨i, v, K0, L0, hi1, hi, rfl, HLi⟩ := hrel
    have hlen : ((stS (newM n)).take i).length = i := by rw [List.length_take, stS_len, newM_len]; omega
    have hO := HLi.out.st.row
    rw [hlen] at hO
    obtain ⟨va, vc, rfl⟩ := own_slice' hO
    have HO := Lib.hid hO
    have k0 : wr.cell? ⟨w.heap.size + 1 + 1 + 1, 0, none⟩ = some (.int .i64 n) := by rw [cell_of_block HLi.out.bx]; rfl
    have k1 : wr.cell? ⟨w.heap.size + 1 + 1 + 1, 1, none⟩ = some (.slice va i vc) := by rw [cell_of_block HLi.out.bx]; rfl
    have hlb := blk_lt HLi.out.bx
    clear hO hlen
    by_cases hlt : i < n
    · have i1 : (i : Int) < (n : Int) := by omega
      have i0' : (0 : Int) ≤ (i : Int) := by omega
      have hwi : IntKind.i64.wrap ((i : Int) + 1) = (i : Int) + 1 := IntWalk.i64_in _ (by omega)
      have HTK : Hid ((stS (newM n)).take (i + 1) = (stS (newM n)).take i ++ [rnOf (nd0 (-1))]) := Lib.hid (by
        rw [stS_take (newM n) (by rw [newM_len]; exact hlt), newM_N h1 hlt, if_neg (by omega)])
      go_wp2_with (at_builtin; refine wpList_append_own _ rfl (.tmp 21) (.tmp 23) 43 rfl (w.heap.size + 1) 60 i0 (.agg #[.int .i64 0, .slice none 0 0, .slice none 0 0]) 3 56 Tryd.underlying43 hi0 hz0 hz1 hz2' rfl (by decide) _ _ _ rfl (HO.out.alloc _) ⟨wr.heap.size, 0, none⟩ 1 1 [.int .i64 (-1), .slice none 0 0, .slice none 0 0] rfl rfl ?c1 (one3 _ _ _ _ _ _ _) (by unfold maxLen; omega) (by omega) (by simp; omega) ?_)
      case c1 => exact World.news_of_block (heap_alloc_new wr _)
      intro v9 w9 hown hg _
      obtain ⟨va9, vc9, rfl⟩ := own_slice' hown
      have HNX := Lib.hid (HLi.out.next (below_box0 wr _) hown hg (by rw [stS_len, newM_len]; exact hlt) HTK.out)
      have hbx : w9.heap[w.heap.size + 1 + 1 + 1]? = some (.cells #[.int .i64 (n : Int), .slice va i vc] 45 (0, 0)) := by
        rw [hg.block _ (by simp; omega) (fun e => own_ty HLi.out.st.row HLi.out.bx t_ns e.symm), Below.heap_alloc _ _ _ hlb]
        exact HLi.out.bx
      have d1 : w9.cell? ⟨w.heap.size + 1 + 1 + 1, 1, none⟩ = some (.slice va i vc) := by rw [cell_of_block hbx]; rfl
      have d2 : w9.frozen? ⟨w.heap.size + 1 + 1 + 1, 1, none⟩ = false := unfrozen_of_block hbx 1
      clear hown hg hbx HTK HLi HO k0 k1
      go_wp2
      go_roundw
      case rel => exact ⟨i + 1, _, _, _, by omega, by omega, by go_num, HNX⟩
      case measure => simp [intOf]; omega
    · obtain rfl : i = n := by omega
      have i1 : ¬ ((i : Int) < (i : Int)) := by omega
      obtain ⟨g, c', hv⟩ := ownsRow_form HO.out (by omega)
      cases hv
      have r0 : wr.cell? ⟨w.heap.size, 0, none⟩ = some (.int .i64 0) := by rw [cell_of_block HLi.out.rs]; rfl
      have r1 : wr.cell? ⟨w.heap.size, 1, none⟩ = some (.slice none 0 0) := by rw [cell_of_block HLi.out.rs]; rfl
      have rf : ∀ k, wr.frozen? ⟨w.heap.size, k, none⟩ = false := fun k => unfrozen_of_block HLi.out.rs k
      have hst := HLi.out.st
      rw [List.take_of_length_le (by rw [stS_len, newM_len]; exact Nat.le_refl _)] at hst
      have HST := Lib.hid hst
      clear hst
      go_wp2
      refine bodyPost_ret (v := .tuple #[.agg #[.int .i64 i, .slice (some ⟨g, 0, none⟩) i vc], .int .i64 0]) (by simp [results, Tryd.results31, go_sem, r0, r1]) rfl ?_
      refine ⟨g, vc, rfl, ⟨K0, L0, ?_⟩, (HLi.out.k.setCell (p := ⟨w.heap.size, 0, none⟩) (by dsimp only; omega) _).setCell (p := ⟨w.heap.size, 1, none⟩) (by dsimp only; omega) _⟩
      exact ((HST.out.setBelow (a := ⟨w.heap.size, 0, none⟩) (by dsimp only; omega) _).setBelow (a := ⟨w.heap.size, 1, none⟩) (by dsimp only; omega) _).le (by omega)
end
end Go.Proofs.YtfmclbacoffdaaaDoor

namespace Go.Proofs.YtfmclbacoffdaaaDoor
open Go.RowKit Go.Sort Go.Joins
attribute [local go_sem] cell_grow frozen_grow size_grow
theorem rfield1 (w : World) : (Instr.field 45 (.agg #[.int .i64 0, .slice none 0 0]) 1).run Tryd.prog w = .ok (.slice none 0 0) w := by kernel_rfl
/-- the map behind some calls -/
def plX (C : Nat → Cl) (X : RM) : Nat → RM
  | 0 => X
  | i + 1 => doC (plX C X i) (C i)
theorem doC_len {X : RM} (h : RGood X) (x : Cl) : (doC X x).st.length = X.st.length := by
  unfold doC
  split
  · exact (h.a.clrX h.w _ _).2.2
  · split
    · rfl
    · exact (h.a.setX h.w _ _ _ _ _ _).2.2
theorem plX_ok {X : RM} (h : RGood X) (C : Nat → Cl) : ∀ i, RGood (plX C X i) ∧ (plX C X i).st.length = X.st.length
  | 0 => ⟨h, rfl⟩
  | i + 1 => by
    obtain ⟨h1, h2⟩ := plX_ok h C i
    exact ⟨h1.doC _, (doC_len h1 _).trans h2⟩
section
variable {w : World} {a : Option Addr} {n cap : Nat} {C : Nat → Cl}
set_option maxRecDepth 100000 in
set_option maxHeartbeats 6400000 in
theorem rplays_many (N : Int) (h : 40 < n) (hT : Tab w) : Calls Tryd.prog 8 #[.int .i64 N, .slice a n cap] w fun e w' => e = .returned (.bool true) ∧ Below w.heap.size w w' := by
  have HA := Lib.hid (awake_ok w hT)
  have d0 : 40 < (n : Int) := by omega
  clear h hT
  go_enter Tryd.func8, Tryd.ntmps8
  go_wp2_with fail
  refine HA.out.mono ?_
  rintro e w1 ⟨rfl, b1⟩
  have B1 := Lib.hid b1
  clear b1 HA
  go_wp2
  go_ret
  exact ⟨rfl, B1.out⟩
set_option maxRecDepth 100000 in
set_option maxHeartbeats 6400000 in
theorem rplays_nil (N : Int) (h : n ≤ 40) (hN : N < 1 ∨ 145 < N) (hT : Tab w) : Calls Tryd.prog 8 #[.int .i64 N, .slice a n cap] w fun e w' => e = .returned (.bool true) ∧ Below w.heap.size w w' := by
  have d0 : ¬ (40 < (n : Int)) := by omega
  have HN := Lib.hid (newm_bad N w hN)
  have HR := Lib.hid (rnew_bad hN w)
  have HT := Lib.hid hT
  clear h hT hN
  go_enter Tryd.func8, Tryd.ntmps8
  go_wp2_with fail
  refine HN.out.mono ?_
  rintro e w1 ⟨rfl, rfl⟩
  go_wp2_with fail
  refine HR.out.mono ?_
  rintro e w2 ⟨rfl, b2⟩
  have B2 := Lib.hid (below_tr b2 (below_box0 w2 (.cells #[.int .i64 0, .slice none 0 0] 45)))
  clear b2 HN HR
  go_upto_region 5 with fail
  generalize World.alloc _ _ = W2 at B2 ⊢
  go_wp2_with fail
  refine (nget 0 _).mono ?_
  rintro e w3 ⟨rfl, b3⟩
  have B3 := Lib.hid (below_tr B2.out b3)
  clear b3 B2
  go_wp2_with fail
  refine (nowned 0 _).mono ?_
  rintro e w4 ⟨rfl, b4⟩
  have B4 := Lib.hid (below_tr B3.out b4)
  clear b4 B3
  go_wp2_with fail
  refine (five_ok _).mono ?_
  rintro e w5 ⟨rfl, b5⟩
  have B5 := Lib.hid (below_tr B4.out b5)
  clear b5 B4
  go_wp2_with fail
  refine (nset 0 1 5 1 3 false _).mono ?_
  rintro e w6 ⟨rfl, b6⟩
  have B6 := Lib.hid (below_tr B5.out b6)
  clear b6 B5
  go_wp2_with fail
  refine (nclear 0 1 _).mono ?_
  rintro e w7 ⟨rfl, rfl⟩
  go_wp2_with fail
  refine (nnodes _).mono ?_
  rintro e w8 ⟨rfl, rfl⟩
  go_wp2_with fail
  refine (nruns _).mono ?_
  rintro e w9 ⟨rfl, b9⟩
  have B9 := Lib.hid (below_tr B6.out b9)
  clear b9 B6
  go_wp2_with fail
  refine (nsave _).mono ?_
  rintro e w10 ⟨rfl, b10⟩
  have B10 := Lib.hid (below_tr B9.out b10)
  have hfd := rfield1
  clear b10 B9
  go_wp2_with fail
  refine (nwalked _).mono ?_
  rintro e w11 ⟨rfl, b11⟩
  have B11 := Lib.hid (below_tr B10.out b11)
  clear b11 B10
  have HA := Lib.hid (awake_ok _ (HT.out.below B11.out))
  go_wp2_with fail
  refine HA.out.mono ?_
  rintro e w12 ⟨rfl, b12⟩
  have B12 := Lib.hid (below_tr B11.out b12)
  clear b12 B11 HA
  go_wp2
  go_ret
  exact ⟨rfl, B12.out⟩
set_option maxRecDepth 100000 in
set_option maxHeartbeats 12800000 in
theorem rplays_ok (k : Nat) (h1 : 1 ≤ k) (h2 : k ≤ 145) (hn : n ≤ 40) (hC : SlC w a n C) (hT : Tab w) : Calls Tryd.prog 8 #[.int .i64 k, .slice a n cap] w fun e w' => e = .returned (.bool true) ∧ Below w.heap.size w w' := by
  have d0 : ¬ (40 < (n : Int)) := by omega
  have HN := Lib.hid (newm_ok k w h1 h2)
  have HT := Lib.hid hT
  have HC := Lib.hid hC
  have HP := Lib.hid (fun i => plX_ok (RGood.newM h1) C i)
  clear hT hC
  go_enter Tryd.func8, Tryd.ntmps8
  go_wp2_with fail
  refine HN.out.mono ?_
  rintro e w1 ⟨rfl, t1, b1⟩
  have HR := Lib.hid (rnew_ok h1 h2 w1)
  have T1 := Lib.hid t1
  have B1 := Lib.hid b1
  clear t1 b1 HN
  go_wp2_with fail
  refine HR.out.mono ?_
  rintro e w2 ⟨g, c, rfl, hst, b2⟩
  have HD0 : Hid (DoM w (w2.alloc (.cells #[.int .i64 k, .slice (some ⟨g, 0, none⟩) k c] 45)) (w.heap.size + 1) w.heap.size w2.heap.size w1.heap.size g k c k (newM k) (newM k)) := Lib.hid (by
    have bb := below_box0 w2 (.cells #[.int .i64 k, .slice (some ⟨g, 0, none⟩) k c] 45)
    obtain ⟨K, L, hs⟩ := hst
    have hp := T1.out.lp
    have hq := T1.out.lq
    have h2s := b2.size
    exact ⟨T1.out.below (below_tr b2 bb), heap_alloc_new w2 _, ⟨K, L, hs.below bb⟩, below_tr B1.out (below_tr b2 bb), hp, hq, Nat.le_trans b2.size bb.size, by omega, by omega⟩)
  clear hst b2 HR
  go_upto_region 5 with fail
  obtain ⟨b, hb⟩ : ∃ y, w2.heap.size = y := ⟨_, rfl⟩
  obtain ⟨Z, hZ⟩ : ∃ y, w1.heap.size = y := ⟨_, rfl⟩
  rw [hb, hZ] at HD0
  rw [hb]
  generalize World.alloc _ _ = W0 at HD0 ⊢
  clear hb hZ T1 B1
  go_wp2
  go_loopw [9] (fun y wr => ∃ (i g c : Nat), i ≤ n ∧ y = .int .i64 i ∧ Hid (DoM w wr (w.heap.size + 1) w.heap.size b Z g k c k (plX C (newM k) i) (plX C (newM k) i))) (fun y _ => n - (intOf y).toNat)
  case atStart => exact ⟨0, g, c, Nat.zero_le _, rfl, HD0⟩
  case round =>
    clear HD0
    obtain ⟨i, g, c, hi, rfl, HD⟩ := hrel
    have hPi := HP.out i
    have hlen : k = (plX C (newM k) i).st.length := by rw [hPi.2, newM_len]
    have HG := Lib.hid hPi.1
    have HL := Lib.hid hlen
    by_cases hlt : i < n
    · obtain ⟨cb, co, rfl, hcl, hcs⟩ : ∃ b o, a = some ⟨b, o, none⟩ ∧ b < w.heap.size ∧ ∀ j, j < n → ClAt w b (o + j * 7) (C j) := by
        rcases HC.out with h | h
        · omega
        · exact h
      have hx := ((hcs i hlt).below hcl HD.out.k)
      have hx2 := hx.below hx.lt (Below.refl _ wr).drew
      have HNX : Hid (plX C (newM k) (i + 1) = doC (plX C (newM k) i) (C i)) := Lib.hid rfl
      have HPN := Lib.hid (HP.out (i + 1))
      have HDD := Lib.hid (HD.out.below (Below.refl _ wr).drew)
      have HDO := Lib.hid (do_ok HDD.out HG.out HL.out HT.out (C i))
      obtain ⟨X, hX⟩ : ∃ X, plX C (newM k) i = X := ⟨_, rfl⟩
      obtain ⟨⟨wh, f, t, o, s, d, z⟩, hCi⟩ : ∃ x, C i = x := ⟨_, rfl⟩
      rw [hX, hCi] at HDO HNX
      rw [hCi] at hx hx2
      have i0 : (0 : Int) ≤ (i : Int) := by omega
      have i1 : (i : Int) < (n : Int) := by omega
      have hwk : IntKind.i64.wrap ((i : Int) + 1) = (i : Int) + 1 := IntWalk.i64_in _ (by omega)
      have f0 : wr.drew.cell? ⟨cb, co + i * 7, none⟩ = some (.int .u8 (wh : Int)) := hx2.c0
      have f1 : wr.drew.cell? ⟨cb, co + i * 7 + 1, none⟩ = some (.int .i64 f) := hx2.c1
      have f2 : wr.drew.cell? ⟨cb, co + i * 7 + 2, none⟩ = some (.int .i64 t) := hx2.c2
      have f3 : wr.drew.cell? ⟨cb, co + i * 7 + 3, none⟩ = some (.int .i64 o) := hx2.c3
      have f4 : wr.drew.cell? ⟨cb, co + i * 7 + 4, none⟩ = some (.int .i64 s) := hx2.c4
      have f5 : wr.drew.cell? ⟨cb, co + i * 7 + 5, none⟩ = some (.int .i64 d) := hx2.c5
      have f6 : wr.drew.cell? ⟨cb, co + i * 7 + 6, none⟩ = some (.bool z) := hx2.c6
      have hcbl := hx.lt
      obtain ⟨Y, hY⟩ : ∃ Y, plX C (newM k) (i + 1) = Y := ⟨_, rfl⟩
      have HYE := Lib.hid hY
      rw [hY] at HPN HNX
      rw [← HNX.out] at HDO
      obtain ⟨ym, hym⟩ : ∃ y, Y.m = y := ⟨_, rfl⟩
      have HYM := Lib.hid hym
      have dm : ((ym : Int) != (ym : Int)) = false := by simp
      clear hx hx2 hcs hX hCi hY hym hPi hlen
      go_upto_region 14 with fail
      go_region_with (first
        | (go_at_call 35; refine HDO.out.mono ?_; rintro e w4 ⟨rfl, g', c', h4⟩; have H4 := Lib.hid h4; have k0 : w4.cell? ⟨b, 0, none⟩ = some (.int .i64 k) := (by rw [cell_of_block h4.bx]; rfl); have k1 : w4.cell? ⟨b, 1, none⟩ = some (.slice (some ⟨g', 0, none⟩) k c') := (by rw [cell_of_block h4.bx]; rfl); have HNO := Lib.hid (nodes_ok h4.t); rw [HYM.out] at HNO; clear h4)
        | (go_at_call 20; refine HNO.out.mono ?_; rintro e w5 ⟨rfl, rfl⟩)
        | (go_at_call 36; obtain ⟨K4, L4, hs4⟩ := H4.out.st; have HRN := rnodes_ok (m := (k : Int)) (c := c') hs4.str HPN.out.1.a.i (by rw [HPN.out.2, newM_len]) h2; rw [HYM.out] at HRN; refine HRN.mono ?_; rintro e w6 ⟨rfl, b6⟩; clear hs4 HRN))
      all_goals
        have HD6 := Lib.hid (H4.out.below b6)
        clear b6 k0 k1 f0 f1 f2 f3 f4 f5 f6 HNO
        go_wp2
        go_roundw
        case rel => exact ⟨i + 1, g', c', by omega, by go_num, by rw [HYE.out]; exact HD6⟩
        case measure => simp [intOf]; omega
    · obtain rfl : i = n := by omega
      have i1 : ¬ ((i : Int) < (i : Int)) := by omega
      obtain ⟨X, hX⟩ : ∃ X, plX C (newM k) i = X := ⟨_, rfl⟩
      rw [hX] at HD HG HL
      clear hX hPi hlen HP
      obtain ⟨ln, hln⟩ : ∃ y, (rnsL X (wL X 0 1024)).length = y := ⟨_, rfl⟩
      have hle : ln ≤ 1024 := by rw [← hln]; exact rnsL_le X 1024
      obtain ⟨F, hF⟩ : ∃ F : Nat → Ru, F = fun j => ruOf X ((rnsL X (wL X 0 1024)).getD j rg0) := ⟨_, rfl⟩
      have HRu : Hid (∀ W', Below wr.heap.size wr W' → Calls Tryd.prog 25 #[.pointer (some ⟨w.heap.size + 1, 0, none⟩)] W' fun e w' => ∃ a c, e = .returned (.slice a ln c) ∧ RdU w' a ln F ∧ Below W'.heap.size W' w') := Lib.hid (fun W' hb => by
        have := runs_ok7 (HD.out.t.below hb) HG.out
        rw [hln] at this
        refine this.mono fun e w' ⟨a, c, he, ho, hb⟩ => ⟨a, c, he, ?_, hb⟩
        rw [hF]
        exact RdU.of_own ho hln.symm)
      have HRr : Hid (∀ W', Below wr.heap.size wr W' → Calls Tryd.prog 38 #[.agg #[.int .i64 k, .slice (some ⟨g, 0, none⟩) k c]] W' fun e w' => ∃ a c, e = .returned (.slice a ln c) ∧ RdU w' a ln F ∧ Below W'.heap.size W' w') := Lib.hid (fun W' hb => by
        obtain ⟨K, L, hs⟩ := HD.out.st
        have := rruns_ok (m := (k : Int)) (c := c) (hs.below hb).str HG.out HL.out h2
        rw [hln, ← hF] at this
        exact this)
      have HSv : Hid (∀ W', Below wr.heap.size wr W' → Calls Tryd.prog 24 #[.pointer (some ⟨w.heap.size + 1, 0, none⟩)] W' fun e w' => ∃ a c, e = .returned (.agg #[.int .i64 k, .slice a k c]) ∧ StR w' a (stS X) ∧ Below W'.heap.size W' w') := Lib.hid (fun W' hb => by
        refine (save_ok (HD.out.t.below hb)).mono fun e w' ⟨a, c, he, ⟨K, L, hs⟩, hb⟩ => ⟨a, c, by rw [he, ← HL.out], ?_, hb⟩
        exact hs.str)
      have HSm : Hid (∀ W' a c', Below wr.heap.size wr W' → StR W' a (stS X) → Calls Tryd.prog 23 #[.agg #[.int .i64 k, .slice a k c'], .agg #[.int .i64 k, .slice (some ⟨g, 0, none⟩) k c]] W' fun e w' => e = .returned (.bool true) ∧ Below W'.heap.size W' w') := Lib.hid (fun W' a c' hb ha => by
        obtain ⟨K, L, hs⟩ := HD.out.st
        have := same_ok (c1 := c') (c2 := c) (m1 := (k : Int)) (m2 := (k : Int)) ha (hs.below hb).str (by rw [stS_len, ← HL.out]; omega) (fun q => by have := (stS_rows (X := X) q).1; omega) (fun q => by have := (stS_rows (X := X) q).2; omega)
        rw [smS_yes rfl rfl (fun _ _ => rfl), stS_len, ← HL.out] at this
        exact this)
      have HAw : Hid (∀ W', Below wr.heap.size wr W' → Calls Tryd.prog 17 #[] W' fun e w' => e = .returned (.bool true) ∧ Below W'.heap.size W' w') := Lib.hid (fun W' hb => awake_ok W' (HT.out.below (below_tr HD.out.k hb)))
      have a3 : wr.cell? ⟨b, 0, none⟩ = some (.int .i64 k) := by rw [cell_of_block HD.out.bx]; rfl
      have a4 : wr.cell? ⟨b, 1, none⟩ = some (.slice (some ⟨g, 0, none⟩) k c) := by rw [cell_of_block HD.out.bx]; rfl
      have HC2 : Hid (∀ w', Below wr.heap.size wr w' → w'.cell? ⟨b, 0, none⟩ = some (.int .i64 k) ∧ w'.cell? ⟨b, 1, none⟩ = some (.slice (some ⟨g, 0, none⟩) k c)) := Lib.hid (fun w' h => ⟨cell_later h a3, cell_later h a4⟩)
      clear hln hF
      go_upto_region 16 with fail
      go_region_held3 (fun w' => Below wr.heap.size wr w' ∧ w'.cell? ⟨b, 0, none⟩ = some (.int .i64 k) ∧ w'.cell? ⟨b, 1, none⟩ = some (.slice (some ⟨g, 0, none⟩) k c))
        ((refine keepN HC2 ?_; first | exact (Below.refl _ _).drew | exact And.left (by assumption) | exact bel_call (by assumption) (by assumption)))
        (first
          | (go_at_call 25; (with_reducible refine (HRu.out _ (And.left (by assumption))).mono ?_); rintro e w5 ⟨ra, rc, rfl, r5, b5⟩; have g5 : Below wr.heap.size wr w5 := bel_call (by assumption) b5; have R5 := Lib.hid r5; clear r5)
          | (go_at_call 38; (with_reducible refine (HRr.out _ (And.left (by assumption))).mono ?_); rintro e w6 ⟨sa, sc, rfl, r6, b6⟩; have g6 : Below wr.heap.size wr w6 := bel_call (by assumption) b6; have R6 := Lib.hid (And.intro (R5.out.below b6) r6); clear r6)
          | (go_at_call 37; refine (sameRuns_ok7 R6.out.1 R6.out.2 (by omega)).mono ?_; rintro e w7 ⟨rfl, b7⟩; have g7 : Below wr.heap.size wr w7 := bel_call (by assumption) b7)
          | (go_at_call 24; (with_reducible refine (HSv.out _ (And.left (by assumption))).mono ?_); rintro e w8 ⟨va, vc, rfl, s8, b8⟩; have g8 : Below wr.heap.size wr w8 := bel_call (by assumption) b8; have S8 := Lib.hid s8; clear s8)
          | (go_at_call 23; refine (HSm.out _ _ _ (And.left (by assumption)) S8.out).mono ?_; rintro e w9 ⟨rfl, b9⟩; have g9 : Below wr.heap.size wr w9 := bel_call (by assumption) b9)
          | (go_at_call 17; (with_reducible refine (HAw.out _ (And.left (by assumption))).mono ?_); rintro e w10 ⟨rfl, b10⟩; have g10 : Below wr.heap.size wr w10 := bel_call (by assumption) b10))
      all_goals
        go_wp2
        go_ret
        exact ⟨rfl, below_tr HD.out.k g10⟩
/-- THE LAW -/
theorem law_rplays (N : Int) (w : World) (hC : SlC w a n C) (hT : Tab w) : Calls Tryd.prog 8 #[.int .i64 N, .slice a n cap] w fun e w' => e = .returned (.bool true) ∧ Below w.heap.size w w' := by
  by_cases h : 40 < n
  · exact rplays_many N h hT
  · by_cases hN : N < 1 ∨ 145 < N
    · exact rplays_nil N (by omega) hN hT
    · obtain ⟨k, rfl⟩ := Int.eq_ofNat_of_zero_le (show 0 ≤ N by omega)
      exact rplays_ok k (by omega) (by omega) (by omega) hC hT
end
end Go.Proofs.YtfmclbacoffdaaaDoor

namespace Go.Proofs.YtfmclbacoffdaaaDoor
open Go.ChangeShapes Go.WideShapes Go.ChangeAt Go.RowKit

theorem own : ownKnob Tryd.prog.godebug = none := by kernel_rfl
theorem gTab : Tryd.prog.globalNamed "math/bits.deBruijn64tab" = some 0 := by kernel_rfl
theorem gTabType : (Tryd.prog.globals[0]?).map (·.type) = some 129 := by kernel_rfl
theorem cellsTab : Tryd.prog.cellsOf 129 = 64 := by kernel_rfl
theorem cellsU8 : Tryd.prog.cellsOf 5 = 1 := by kernel_rfl

theorem tab_of {W : World} (h : laidMetH Tryd.prog [("math/bits.deBruijn64tab", Rows.laid_math_bits_deBruijn64tab)] W) : Tab W := by
  have ht : Lib.TabIs Tryd.prog W "math/bits.deBruijn64tab" .u8 (Lib.deBruijn64tab.map fun (x : Nat) => (x : Int)) :=
    Lib.tabIs_of_head (rest := []) gTab gTabType Tryd.underlying129 Tryd.underlying5 cellsU8 cellsTab h
  intro i hi
  have := ht.cell gTab i (by rw [List.length_map]; exact hi)
  rw [this]
  have e : (Lib.deBruijn64tab.map fun (x : Nat) => (x : Int)).getD i 0 = ((Lib.deBruijn64tab.getD i 0 : Nat) : Int) := by
    have h64 : Lib.deBruijn64tab.length = 64 := rfl
    simp [List.getD_eq_getElem?_getD, h64, hi]
  rw [e]

/-- A world for the witness: the settled one, the table holding what its initialiser lays. -/
noncomputable def laidWorld (os : Os) : World :=
  { World.holding Tryd.prog os ⟨#[], #[], []⟩ with heap := (World.holding Tryd.prog os ⟨#[], #[], []⟩).heap.modify 0 fun
      | .cells _ t frozen => .cells (Lib.deBruijn64tab.map fun (x : Nat) => Value.int .u8 (x : Int)).toArray t frozen
      | o => o }
theorem laidOut : laidOutB Tryd.prog = true := by kernel_rfl

theorem trodAll_below {H : Type} {enc : TypeId × Value → H} {W W' : World} (hb : Below W.heap.size W W') (ts : List TypeId) : ∀ (vs : List Value) (ds : List (DataW H)) (ps : List MemPlace),
    (ts.all fun t => Tryd.prog.readableRec t && decide (t < Tryd.prog.types.size)) = true → (∀ x ∈ ps, x.block < W.heap.size) → DataW.TrodAll enc Tryd.prog W 0 (fun _ => true) true ts vs ds ps →
    DataW.TrodAll enc Tryd.prog W' 0 (fun b => decide (b < W.heap.size)) true ts vs ds ps := by
  induction ts with
  | nil =>
    intro vs ds ps _ _ h
    obtain ⟨rfl, rfl, rfl⟩ := trodAll_nil h
    exact trodAll_mk0
  | cons t ts ih =>
    intro vs ds ps hr hlt h
    obtain ⟨v, vs', d, ds', p, q, rfl, rfl, rfl, h1, h2⟩ := trodAll_cons h
    rw [List.all_cons, Bool.and_eq_true, Bool.and_eq_true] at hr
    exact trodAll_cons_mk (Below.trod laidOut hr.1.1 (of_decide_eq_true hr.1.2) h1 hb (fun x hx => hlt x (List.mem_append_left _ hx))) (ih vs' ds' q hr.2 (fun x hx => hlt x (List.mem_append_right _ hx)) h2)

/-- WHAT A LAW's WALK GIVES THE ROW: true, the arguments read as they did. -/
theorem law_post {H : Type} {enc : TypeId × Value → H} {fn : Func} {s : ChangeSpec} {W W' : World} {args : Array Value} {ds gs : List (DataW H)} {before : List MemPlace}
    (hW : DataW.Whole enc Tryd.prog fn.params.toList s.vars false W args.toList ds gs before) (hv : s.vars = []) (hr : (fn.params.toList.all fun t => Tryd.prog.readableRec t && decide (t < Tryd.prog.types.size)) = true) (hrt : fn.resultTypes = #[4])
    (h1 : (s.fn H (ds ++ gs)).results = [.lit (.bool true)]) (h2 : (s.fn H (ds ++ gs)).args = ds) (h3 : (s.fn H (ds ++ gs)).vars = []) (hb : Below W.heap.size W W') :
    s.post enc Tryd.prog fn false true false false W args (.bool true) W' := by
  have hW' := hW
  have hlt := hW.lt
  obtain ⟨p, q, hA, hV, rfl, hfz, hnd⟩ := hW
  refine ⟨ds, gs, p ++ q, [], p, [], hW', ?_, ?_, ?_, hb.frame _, fun h => by cases h⟩
  · rw [h1, hrt]
    exact trodAll_cons_mk (shut_bool Tryd.underlying4 _) trodAll_mk0
  · rw [h2]
    exact trodAll_below hb _ _ _ _ hr (fun x hx => hlt x (List.mem_append_left _ hx)) hA
  · rw [h3, hv]; rfl
end Go.Proofs.YtfmclbacoffdaaaDoor

namespace Go.Proofs.YtfmclbacoffdaaaDoor
open Go.ChangeShapes Go.WideShapes Go.ChangeAt Go.RowKit Go.Joins
set_option maxRecDepth 100000 in
theorem open_desc {H : Type} {enc : TypeId × Value → H} {W : World} {base : Nat} {v : Value} {d : DataW H} {p : List MemPlace} (hv : Value.okWide Tryd.prog W .any base 23 v) (h : DataW.Trod enc Tryd.prog W 0 (fun _ => true) true 23 v d p) :
    ∃ (o s t : Int) (g : Bool), v = .agg #[.int .i64 o, .int .i64 s, .int .i64 t, .bool g] ∧ (-9223372036854775808 ≤ o ∧ o ≤ 9223372036854775807) ∧ (-9223372036854775808 ≤ s ∧ s ≤ 9223372036854775807) ∧ (-9223372036854775808 ≤ t ∧ t ≤ 9223372036854775807) := by
  obtain ⟨cs, rfl, hsz⟩ := okWide_struct Tryd.underlying23 hv
  have hC : Tryd.prog.cellsOf 23 = 4 := by kernel_rfl
  have hk : Tryd.prog.cellsOf 3 = 1 := by kernel_rfl
  have hk6 : Tryd.prog.cellsOf 2 = 1 := by kernel_rfl
  have hkb : Tryd.prog.cellsOf 4 = 1 := by kernel_rfl
  obtain ⟨fuel, hf⟩ := h
  have hl : cs.toList.length = 4 := by simpa using hsz.trans hC
  obtain ⟨ys, n', _, _, _, hyl, hg⟩ := DataW.trod_struct Tryd.underlying23 hf
  have h0 : DataW.trod enc Tryd.prog W 0 (fun _ => true) true n' 3 ((cs.toList.drop 0).take (Tryd.prog.cellsOf 3)) = ys[0]? := hg 0 _ rfl
  have h1 : DataW.trod enc Tryd.prog W 0 (fun _ => true) true n' 3 ((cs.toList.drop 1).take (Tryd.prog.cellsOf 3)) = ys[1]? := hg 1 _ rfl
  have h2 : DataW.trod enc Tryd.prog W 0 (fun _ => true) true n' 2 ((cs.toList.drop 2).take (Tryd.prog.cellsOf 2)) = ys[2]? := hg 2 _ rfl
  have h3 : DataW.trod enc Tryd.prog W 0 (fun _ => true) true n' 4 ((cs.toList.drop 3).take (Tryd.prog.cellsOf 4)) = ys[3]? := hg 3 _ rfl
  rw [hk] at h0 h1
  rw [hk6] at h2
  rw [hkb] at h3
  have e0 : ys[0]? = some (ys[0]'(by rw [hyl]; decide)) := List.getElem?_eq_getElem _
  have e1 : ys[1]? = some (ys[1]'(by rw [hyl]; decide)) := List.getElem?_eq_getElem _
  have e2 : ys[2]? = some (ys[2]'(by rw [hyl]; decide)) := List.getElem?_eq_getElem _
  have e3 : ys[3]? = some (ys[3]'(by rw [hyl]; decide)) := List.getElem?_eq_getElem _
  match hcs : cs.toList, hl with
  | [v0, v1, v2, v3], _ =>
    rw [hcs] at h0 h1 h2 h3
    obtain ⟨x0, f0, _, w0⟩ := DataW.trod_int Tryd.underlying3 (show DataW.trod enc Tryd.prog W 0 (fun _ => true) true n' 3 [v0] = some _ from h0.trans e0)
    obtain ⟨x1, f1, _, w1⟩ := DataW.trod_int Tryd.underlying3 (show DataW.trod enc Tryd.prog W 0 (fun _ => true) true n' 3 [v1] = some _ from h1.trans e1)
    obtain ⟨x2, f2, _, w2⟩ := DataW.trod_int Tryd.underlying2 (show DataW.trod enc Tryd.prog W 0 (fun _ => true) true n' 2 [v2] = some _ from h2.trans e2)
    obtain ⟨x3, f3, _⟩ := DataW.trod_bool Tryd.underlying4 (show DataW.trod enc Tryd.prog W 0 (fun _ => true) true n' 4 [v3] = some _ from h3.trans e3)
    cases f0; cases f1; cases f2; cases f3
    exact ⟨x0, x1, x2, x3, by cases cs; simp_all, bounds_i64 w0, bounds_i64 w1, bounds_i64 w2⟩
end Go.Proofs.YtfmclbacoffdaaaDoor

namespace Go.Proofs.YtfmclbacoffdaaaDoor
open Go.ChangeShapes Go.WideShapes Go.ChangeAt Go.RowKit Go.Joins Go.Deep
/-- the bounds of a call's numbers -/
structure ClOk (x : Cl) : Prop where
  w : x.wh ≤ 255
  f : -9223372036854775808 ≤ x.f ∧ x.f ≤ 9223372036854775807
  t : -9223372036854775808 ≤ x.t ∧ x.t ≤ 9223372036854775807
  o : -9223372036854775808 ≤ x.o ∧ x.o ≤ 9223372036854775807
  s : -9223372036854775808 ≤ x.s ∧ x.s ≤ 9223372036854775807
  c : -9223372036854775808 ≤ x.c ∧ x.c ≤ 9223372036854775807
section
variable {H : Type} {enc : TypeId × Value → H} {W : World} {base : Nat}
set_option maxRecDepth 100000 in
/-- the cells of a call -/
theorem cells_call {fuel : Nat} {cs : List Value} {x : DataW H × List MemPlace} (hl : cs.length = 7) (hf : DataW.trod enc Tryd.prog W base (fun _ => true) true fuel 73 cs = some x) :
    ∃ x : Cl, cs = [.int .u8 (x.wh : Int), .int .i64 x.f, .int .i64 x.t, .int .i64 x.o, .int .i64 x.s, .int .i64 x.c, .bool x.g] ∧ ClOk x := by
  have hk5 : Tryd.prog.cellsOf 5 = 1 := by kernel_rfl
  have hk : Tryd.prog.cellsOf 3 = 1 := by kernel_rfl
  have hk6 : Tryd.prog.cellsOf 2 = 1 := by kernel_rfl
  have hkb : Tryd.prog.cellsOf 4 = 1 := by kernel_rfl
  have hkd : Tryd.prog.cellsOf 23 = 4 := by kernel_rfl
  obtain ⟨ys, n', _, _, _, hyl, hg⟩ := DataW.trod_struct Tryd.underlying73 hf
  have h0 : DataW.trod enc Tryd.prog W base (fun _ => true) true n' 5 ((cs.drop 0).take (Tryd.prog.cellsOf 5)) = ys[0]? := hg 0 _ rfl
  have h1 : DataW.trod enc Tryd.prog W base (fun _ => true) true n' 3 ((cs.drop 1).take (Tryd.prog.cellsOf 3)) = ys[1]? := hg 1 _ rfl
  have h2 : DataW.trod enc Tryd.prog W base (fun _ => true) true n' 3 ((cs.drop 2).take (Tryd.prog.cellsOf 3)) = ys[2]? := hg 2 _ rfl
  have h3 : DataW.trod enc Tryd.prog W base (fun _ => true) true n' 23 ((cs.drop 3).take (Tryd.prog.cellsOf 23)) = ys[3]? := hg 3 _ rfl
  rw [hk5] at h0
  rw [hk] at h1 h2
  rw [hkd] at h3
  have e0 : ys[0]? = some (ys[0]'(by rw [hyl]; decide)) := List.getElem?_eq_getElem _
  have e1 : ys[1]? = some (ys[1]'(by rw [hyl]; decide)) := List.getElem?_eq_getElem _
  have e2 : ys[2]? = some (ys[2]'(by rw [hyl]; decide)) := List.getElem?_eq_getElem _
  have e3 : ys[3]? = some (ys[3]'(by rw [hyl]; decide)) := List.getElem?_eq_getElem _
  match cs, hl with
  | [v0, v1, v2, v3, v4, v5, v6], _ =>
    obtain ⟨x0, f0, _, w0⟩ := DataW.trod_int Tryd.underlying5 (show DataW.trod enc Tryd.prog W base (fun _ => true) true n' 5 [v0] = some _ from h0.trans e0)
    obtain ⟨x1, f1, _, w1⟩ := DataW.trod_int Tryd.underlying3 (show DataW.trod enc Tryd.prog W base (fun _ => true) true n' 3 [v1] = some _ from h1.trans e1)
    obtain ⟨x2, f2, _, w2⟩ := DataW.trod_int Tryd.underlying3 (show DataW.trod enc Tryd.prog W base (fun _ => true) true n' 3 [v2] = some _ from h2.trans e2)
    obtain ⟨zs, n2, _, _, _, hzl, hz⟩ := DataW.trod_struct Tryd.underlying23 (show DataW.trod enc Tryd.prog W base (fun _ => true) true n' 23 [v3, v4, v5, v6] = some _ from h3.trans e3)
    have g0 : DataW.trod enc Tryd.prog W base (fun _ => true) true n2 3 (([v3, v4, v5, v6].drop 0).take (Tryd.prog.cellsOf 3)) = zs[0]? := hz 0 _ rfl
    have g1 : DataW.trod enc Tryd.prog W base (fun _ => true) true n2 3 (([v3, v4, v5, v6].drop 1).take (Tryd.prog.cellsOf 3)) = zs[1]? := hz 1 _ rfl
    have g2 : DataW.trod enc Tryd.prog W base (fun _ => true) true n2 2 (([v3, v4, v5, v6].drop 2).take (Tryd.prog.cellsOf 2)) = zs[2]? := hz 2 _ rfl
    have g3 : DataW.trod enc Tryd.prog W base (fun _ => true) true n2 4 (([v3, v4, v5, v6].drop 3).take (Tryd.prog.cellsOf 4)) = zs[3]? := hz 3 _ rfl
    rw [hk] at g0 g1
    rw [hk6] at g2
    rw [hkb] at g3
    have q0 : zs[0]? = some (zs[0]'(by rw [hzl]; decide)) := List.getElem?_eq_getElem _
    have q1 : zs[1]? = some (zs[1]'(by rw [hzl]; decide)) := List.getElem?_eq_getElem _
    have q2 : zs[2]? = some (zs[2]'(by rw [hzl]; decide)) := List.getElem?_eq_getElem _
    have q3 : zs[3]? = some (zs[3]'(by rw [hzl]; decide)) := List.getElem?_eq_getElem _
    obtain ⟨x3, f3, _, w3⟩ := DataW.trod_int Tryd.underlying3 (show DataW.trod enc Tryd.prog W base (fun _ => true) true n2 3 [v3] = some _ from g0.trans q0)
    obtain ⟨x4, f4, _, w4⟩ := DataW.trod_int Tryd.underlying3 (show DataW.trod enc Tryd.prog W base (fun _ => true) true n2 3 [v4] = some _ from g1.trans q1)
    obtain ⟨x5, f5, _, w5⟩ := DataW.trod_int Tryd.underlying2 (show DataW.trod enc Tryd.prog W base (fun _ => true) true n2 2 [v5] = some _ from g2.trans q2)
    obtain ⟨x6, f6, _⟩ := DataW.trod_bool Tryd.underlying4 (show DataW.trod enc Tryd.prog W base (fun _ => true) true n2 4 [v6] = some _ from g3.trans q3)
    cases f0; cases f1; cases f2; cases f3; cases f4; cases f5; cases f6
    have b0 := bounds_u8 w0
    obtain ⟨z0, rfl⟩ := Int.eq_ofNat_of_zero_le b0.1
    exact ⟨⟨z0, x1, x2, x3, x4, x5, x6⟩, rfl, ⟨by dsimp only; omega, bounds_i64 w1, bounds_i64 w2, bounds_i64 w3, bounds_i64 w4, bounds_i64 w5⟩⟩
set_option maxRecDepth 100000 in
theorem open_call {v : Value} {d : DataW H} {p : List MemPlace} (hv : Value.okWide Tryd.prog W .any base 73 v) (h : DataW.Trod enc Tryd.prog W 0 (fun _ => true) true 73 v d p) :
    ∃ x : Cl, v = .agg #[.int .u8 (x.wh : Int), .int .i64 x.f, .int .i64 x.t, .int .i64 x.o, .int .i64 x.s, .int .i64 x.c, .bool x.g] ∧ ClOk x := by
  obtain ⟨cs, rfl, hsz⟩ := okWide_struct Tryd.underlying73 hv
  have hC : Tryd.prog.cellsOf 73 = 7 := by kernel_rfl
  obtain ⟨fuel, hf⟩ := h
  have hl : cs.toList.length = 7 := by simpa using hsz.trans hC
  obtain ⟨x, hx, hb⟩ := cells_call hl hf
  exact ⟨x, by cases cs; simp_all, hb⟩
set_option maxRecDepth 100000 in
theorem open_calls7 {v : Value} {d : DataW H} {p : List MemPlace} (hv : Value.okWide Tryd.prog W .any base 32 v) (h : DataW.Trod enc Tryd.prog W 0 (fun _ => true) true 32 v d p) :
    ∃ (a : Option Addr) (n cap : Nat) (C : Nat → Cl), v = .slice a n cap ∧ SlC W a n C ∧ n ≤ 9223372036854775807 ∧ ∀ j, j < n → ClOk (C j) := by
  obtain ⟨a, l, c, rfl⟩ := okWide_slice Tryd.underlying32 hv
  have hC : Tryd.prog.cellsOf 73 = 7 := by kernel_rfl
  obtain ⟨fuel, hf⟩ := h
  rcases open_slice Tryd.underlying32 hf with ⟨h, _⟩ | ⟨A, len, cap, mm, n, D, Pl, h, _, hl, hm, hmm, _, hi⟩
  · cases h
    exact ⟨none, 0, 0, fun _ => default, rfl, .inl rfl, by decide, fun j hj => by omega⟩
  · cases h
    have hml : maxLen ≤ 9223372036854775807 := by decide
    simp only [↓reduceIte] at hmm
    have key : ∀ i, i < c → ∃ x : Cl, (∀ k, k < 7 → W.cell? (A.add (i * 7 + k)) = [Value.int .u8 (x.wh : Int), .int .i64 x.f, .int .i64 x.t, .int .i64 x.o, .int .i64 x.s, .int .i64 x.c, .bool x.g][k]?) ∧ ClOk x := by
      intro i hic
      obtain ⟨cs', hc, ht'⟩ := hi i (by omega)
      rw [hC] at hc
      obtain ⟨_, hcl, hat⟩ := World.cells?_some hc
      obtain ⟨x, hx, hb⟩ := cells_call hcl ht'
      refine ⟨x, fun k hk => ?_, hb⟩
      have := hat k hk
      rw [Go.Deep.add_add] at this
      rw [this, hx]
    have key2 : ∃ C : Nat → Cl, ∀ i, i < c → (∀ k, k < 7 → W.cell? (A.add (i * 7 + k)) = [Value.int .u8 ((C i).wh : Int), .int .i64 (C i).f, .int .i64 (C i).t, .int .i64 (C i).o, .int .i64 (C i).s, .int .i64 (C i).c, .bool (C i).g][k]?) ∧ ClOk (C i) := by
      classical
      refine ⟨fun i => if hi : i < c then Classical.choose (key i hi) else default, fun i hi => ?_⟩
      dsimp only
      rw [dif_pos hi]
      exact Classical.choose_spec (key i hi)
    obtain ⟨C, hC'⟩ := key2
    refine ⟨some A, l, c, C, rfl, ?_, by omega, fun j hj => (hC' j (by omega)).2⟩
    by_cases h0 : l = 0
    · exact .inl h0
    · have hp := (hC' 0 (by omega)).1 0 (by decide)
      obtain ⟨b, o, spot⟩ := A
      have hs : spot = none := World.cell?_spot (hp.trans rfl)
      subst hs
      have hlt : b < W.heap.size := World.block_lt_of_cell? _ _ (hp.trans rfl)
      refine .inr ⟨b, o, rfl, hlt, fun j hj => ?_⟩
      have hk := (hC' j (by omega)).1
      simp only [Go.WideShapes.add_plain] at hk
      exact ⟨hk 0 (by decide), hk 1 (by decide), hk 2 (by decide), hk 3 (by decide), hk 4 (by decide), hk 5 (by decide), hk 6 (by decide)⟩
end
end Go.Proofs.YtfmclbacoffdaaaDoor
