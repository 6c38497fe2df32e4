/- Handles: the methods, of no table. | Handles: walked of the laws, of no table. -/
import Derived.Test.YtpaecmpiokkdnaaDoorTypesZ17
namespace Go.Proofs.YtpaecmpiokkdnaaDoor
open Go.RowKit Go.Sort Go.Joins Go.Shelf
attribute [local go_sem] cell_grow frozen_grow size_grow Oper.semAt_some

theorem nmade (w : World) : Calls Tryd.prog 52 #[.pointer none] w fun e w' => e = .returned (.bool false) ∧ w = w' := by
  go_enter Tryd.func52, Tryd.ntmps52
  go_wp2
  go_ret
  exact ⟨rfl, rfl⟩
theorem nput (v : Int) (w : World) : Calls Tryd.prog 14 #[.pointer none, .int .i64 v] w fun e w' => e = .returned (.tuple #[.int .i64 0, .int .i64 1]) ∧ w = w' := by
  go_enter Tryd.func14, Tryd.ntmps14
  go_wp2_with fail
  refine (nmade _).mono ?_
  rintro e w1 ⟨rfl, rfl⟩
  go_wp2
  go_ret2
  exact ⟨rfl, rfl⟩
theorem nfind (h : Int) (w : World) : Calls Tryd.prog 58 #[.pointer none, .int .i64 h] w fun e w' => e = .returned (.tuple #[.pointer none, .int .i64 1]) ∧ w = w' := by
  go_enter Tryd.func58, Tryd.ntmps58
  go_wp2_with fail
  refine (nmade _).mono ?_
  rintro e w1 ⟨rfl, rfl⟩
  go_wp2
  go_ret2
  exact ⟨rfl, rfl⟩
theorem nget (h : Int) (w : World) : Calls Tryd.prog 28 #[.pointer none, .int .i64 h] w fun e w' => e = .returned (.tuple #[.int .i64 0, .int .i64 1]) ∧ w = w' := by
  go_enter Tryd.func28, Tryd.ntmps28
  go_wp2_with fail
  refine (nfind h _).mono ?_
  rintro e w1 ⟨rfl, rfl⟩
  go_wp2
  go_ret2
  exact ⟨rfl, rfl⟩
theorem nset (h v : Int) (w : World) : Calls Tryd.prog 27 #[.pointer none, .int .i64 h, .int .i64 v] w fun e w' => e = .returned (.int .i64 1) ∧ w = w' := by
  go_enter Tryd.func27, Tryd.ntmps27
  go_wp2_with fail
  refine (nfind h _).mono ?_
  rintro e w1 ⟨rfl, rfl⟩
  go_wp2
  go_ret
  exact ⟨rfl, rfl⟩
theorem ndrop (h : Int) (w : World) : Calls Tryd.prog 23 #[.pointer none, .int .i64 h] w fun e w' => e = .returned (.tuple #[.int .i64 0, .int .i64 1]) ∧ w = w' := by
  have hmf : ∀ (fn : Fn) (first cap : Array Value) (w : World), (Instr.makeFunc fn first cap).run Tryd.prog w = .ok (.func fn first cap) w := fun _ _ _ _ => rfl
  go_enter Tryd.func23, Tryd.ntmps23
  go_wp2_with fail
  refine (nfind h _).mono ?_
  rintro e w1 ⟨rfl, rfl⟩
  go_wp2
  go_ret2
  exact ⟨rfl, rfl⟩
theorem nlen (w : World) : Calls Tryd.prog 24 #[.pointer none] w fun e w' => e = .returned (.int .i64 0) ∧ w = w' := by
  go_enter Tryd.func24, Tryd.ntmps24
  go_wp2_with fail
  refine (nmade _).mono ?_
  rintro e w1 ⟨rfl, rfl⟩
  go_wp2
  go_ret
  exact ⟨rfl, rfl⟩
theorem nroom (w : World) : Calls Tryd.prog 36 #[.pointer none] w fun e w' => e = .returned (.int .i64 0) ∧ w = w' := by
  go_enter Tryd.func36, Tryd.ntmps36
  go_wp2_with fail
  refine (nmade _).mono ?_
  rintro e w1 ⟨rfl, rfl⟩
  go_wp2
  go_ret
  exact ⟨rfl, rfl⟩
theorem nsave (w : World) : Calls Tryd.prog 21 #[.pointer none] w fun e w' => e = .returned (.agg #[.slice none 0 0, .slice none 0 0, .slice none 0 0]) ∧ Below w.heap.size w w' := by
  have bb := (below_box0 w (.cells #[.slice none 0 0, .slice none 0 0, .slice none 0 0] 35)).trans ((below_box0 (w.alloc (.cells #[.slice none 0 0, .slice none 0 0, .slice none 0 0] 35)) (.cells #[.slice none 0 0, .slice none 0 0, .slice none 0 0] 35)).mono (by simp))
  have HB := Lib.hid bb
  clear bb
  go_enter Tryd.func21, Tryd.ntmps21
  go_wp2_with fail
  refine (nmade _).mono ?_
  rintro e w1 ⟨rfl, rfl⟩
  go_wp2
  refine bodyPost_ret (v := .agg #[.slice none 0 0, .slice none 0 0, .slice none 0 0]) (by simp [results, Tryd.f21, go_sem]) rfl ⟨rfl, ?_⟩
  exact ((Below.refl _ _).alloc (Nat.le_refl _) _).alloc (by simp) _
end Go.Proofs.YtpaecmpiokkdnaaDoor

namespace Go.Proofs.YtpaecmpiokkdnaaDoor
open Go.RowKit Go.Sort Go.Joins Go.Shelf
attribute [local go_sem] cell_grow frozen_grow size_grow Oper.semAt_some

set_option maxRecDepth 100000 in
set_option maxHeartbeats 1600000 in
theorem nall_seq (d Bt : Nat) (I : List Nat → World → Prop) (hI : ∀ pre W, I pre W → W.cell? ⟨Bt, 0, none⟩ = some (.pointer none)) (w : World) :
    SeqI Fence.wide d Tryd.prog 57 #[.pointer (some ⟨Bt, 0, none⟩)] (encAll []) I (GAll []) (SAll []) w := by
  intro l J Jx W _ hJ _ hJI hY h0
  have hc0 := hI _ _ (hJI _ _ h0)
  have HM := Lib.hid (nmade W)
  have H0 := Lib.hid h0
  clear h0
  refine callsIn_of_wp Tryd.func57 rfl trivial ?_ rfl
  simp only [Tryd.ntmps57, List.size_toArray, List.length_cons, List.length_nil, Nat.reduceAdd, Nat.reduceSub, Array.replicate_succ, Array.replicate_zero, List.push_toArray, List.append_toArray, List.nil_append, List.cons_append]
  gi_wp2_with (refine ⟨trivial, wide_any' _, (callsIn_wide.2 HM.out).mono ?_⟩; rintro e w1 ⟨rfl, rfl⟩)
  refine bodyPost_ret (results_none rfl _ _ _) rfl ?_
  exact ⟨⟨_, rfl⟩, .inl ⟨[], rfl, H0.out⟩⟩
/-- what lies in memory -/
structure WN (w W : World) : Prop where
  b4 : W.heap[w.heap.size]? = some (.cells #[.slice none 0 0] 51 (0, 0))
  b5 : W.heap[w.heap.size + 1]? = some (.cells #[.slice none 0 0] 32 (0, 0))
  bt : W.heap[w.heap.size + 1 + 1]? = some (.cells #[.pointer none] 24 (0, 0))
  k : Below w.heap.size w W
theorem WN.kept {w W W' : World} (h : WN w W) {row : Option Nat} {Z : Nat} (hZ : w.heap.size ≤ Z) (hg : W.grownBy W' row) (hr : ∀ r, row = some r → Z ≤ r ∧ ∃ o : Obj, W.heap[r]? = some o ∧ o.isCells = false) : WN w W' := by
  have hr2 := fun r e => (hr r e).2
  exact ⟨blk_kept h.b4 hg hr2, blk_kept h.b5 hg hr2, blk_kept h.bt hg hr2, h.k.grown hg h.k.size (fun r e => by have := (hr r e).1; omega)⟩
set_option maxRecDepth 100000 in
set_option maxHeartbeats 6400000 in
theorem nwalked (w : World) :
    Calls Tryd.prog 25 #[.pointer none] w fun e w' => e = .returned (.tuple #[.slice none 0 0, .slice none 0 0]) ∧ Below w.heap.size w w' := by
  have hne := func_ne_nil'
  refine (callsIn_wide (n := 4)).1 ?_
  refine callsIn_of_wp_marks Tryd.func25 rfl trivial ?_ rfl
  simp only [Tryd.ntmps25, List.size_toArray, List.length_cons, List.length_nil, Nat.reduceAdd, Nat.reduceSub, Array.replicate_succ, Array.replicate_zero, List.push_toArray, List.append_toArray, List.nil_append, List.cons_append]
  gi_wp2_with fail
  refine ⟨trivial, (callsIn_wide.2 (all_ok _ _)).mono ?_⟩
  rintro e w2 ⟨rfl, hw2⟩
  have hWN : WN w w2 := by
    have bw : Below w.heap.size w w2 := by
      rw [← hw2]
      exact (((Below.refl _ w).alloc (Nat.le_refl _) _).alloc (by simp) _).alloc (by simp; omega) _
    refine ⟨?_, ?_, ?_, bw⟩
    · rw [← hw2]; refine (Below.heap_alloc _ _ _ (by simp <;> omega)).trans ?_; refine (Below.heap_alloc _ _ _ (by simp <;> omega)).trans ?_; exact heap_alloc_new w _
    · rw [← hw2]; refine (Below.heap_alloc _ _ _ (by simp <;> omega)).trans ?_
      have := heap_alloc_new (w.alloc (.cells #[.slice none 0 0] 51)) (.cells #[.slice none 0 0] 32)
      rwa [World.size_alloc] at this
    · rw [← hw2]
      have := heap_alloc_new ((w.alloc (.cells #[.slice none 0 0] 51)).alloc (.cells #[.slice none 0 0] 32)) (.cells #[.pointer none] 24)
      rwa [World.size_alloc, World.size_alloc] at this
  have hsz2 : w.heap.size + 3 ≤ w2.heap.size := by rw [← hw2]; simp
  have HWN := Lib.hid hWN
  clear hWN hw2
  gi_wp2
  refine wpIn_iter_moves rfl (by omega) (gf := 57) (lb := #[.pointer (some ⟨w.heap.size + 1 + 1, 0, none⟩)]) rfl trivial (enters_of Tryd.func57 (by kernel_rfl) rfl)
    (fun pre W => WN w W)
    (nall_seq _ (w.heap.size + 1 + 1) _ ?keep _) (fun _ => rfl) (fun _ _ _ => False) ?own (fun _ _ _ _ _ hs _ _ => hs) ?start
    (fun a x => { tmps := (((a.tmps.setIfInBounds 14 (.int .i64 (hndI [] x))).setIfInBounds 15 ((([] : List Slt).getD x (0, false, undef)).2.2)).setIfInBounds 7 (.int .i64 (hndI [] x))).setIfInBounds 8 ((([] : List Slt).getD x (0, false, undef)).2.2), defers := [] })
    ?assign ?body ?done (fun _ _ _ _ _ h _ => h.elim)
  case keep =>
    intro pre W hD
    rw [cell_of_block hD.bt]; rfl
  case own =>
    intro pre X Y row hD hg hr
    exact hD.kept (by have := HWN.out.k.size; omega) hg hr
  case start => exact HWN.out
  case assign =>
    intro l x W K hK
    simp only [List.setIfInBounds_toArray, List.set_cons_zero, List.set_cons_succ] at hK
    gi_wp2
    exact hK
  case body =>
    rintro l pre x W hl hD ⟨hpre, hx, hal⟩
    exact absurd hx (Nat.not_lt_zero _)
  case done =>
    rintro D' xs W hD' hxs hD hK
    have c4 : W.cell? ⟨w.heap.size, 0, none⟩ = some (.slice none 0 0) := by rw [cell_of_block hD.b4]; rfl
    have c5 : W.cell? ⟨w.heap.size + 1, 0, none⟩ = some (.slice none 0 0) := by rw [cell_of_block hD.b5]; rfl
    have HD := Lib.hid hD
    have HK := Lib.hid hK
    clear hD hK hxs
    gi_wp2
    refine code_noPanic' ?_
    gi_region_with (fail)
    all_goals
      simp only [noPanic']
      gi_wp2
      have hK' : W.drew.heap[D']? = some (.deferred (some [])) := HK.out
      refine ⟨by simp, .inl ⟨_, _, rfl, run_takeDeferred hK', ?_⟩⟩
      refine ⟨.tuple #[.slice none 0 0, .slice none 0 0], ?_, rfl, (HD.out.k.trans ((Below.refl w.heap.size W).drew)).trans (belowK_b (w := w) (Nat.le_refl _) _ D' _ _ (by have := HWN.out.k.size; omega) hK' rfl rfl)⟩
      simp [results, Tryd.f25, go_sem]
end Go.Proofs.YtpaecmpiokkdnaaDoor
