/- The radix map: New. -/
import Derived.Test.YtfmclbacoffdaaaDoorR7B
import Derived.Test.YtfmclbacoffdaaaDoorR7NewP
namespace Go.Proofs.YtfmclbacoffdaaaDoor
open Go.RowKit Go.Sort Go.Joins
attribute [local go_sem] cell_grow frozen_grow size_grow
theorem info_node : (Tryd.prog.info? 90).map (fun i => (i.zero, i.size, i.bytes)) = some (some (.agg (ndc (nd0 0)).toArray), 26, 208) := by kernel_rfl
theorem run_make_nodes (n : Nat) (hn : n ≤ 145) (w : World) :
    (Instr.makeSlice 91 (.int .i64 (n : Int)) (.int .i64 (n : Int))).run Tryd.prog w = .ok (.slice (some ⟨w.heap.size, 0, none⟩) n n) (w.alloc (.cells (ndCells (List.replicate n (nd0 0))).toArray 90)) := by
  obtain ⟨i0, hi, hz0, hz1, hz2⟩ := info_parts info_node
  have h := run_make (P := Tryd.prog) w 91 90 i0 _ Tryd.underlying91 hi hz0 .i64 .i64 n n (by omega) (by omega) (by rw [hz2]; omega) (by omega)
  have e : madeCells (ndc (nd0 0)).toArray (n * 26) = (ndCells (List.replicate n (nd0 0))).toArray := by rw [← made_nodes]
  rw [h, Int.toNat_natCast, hz1]
  exact congrArg (fun c => Result.ok (Value.slice (some ⟨w.heap.size, 0, none⟩) n n) (w.alloc (.cells c 90))) e
set_option maxHeartbeats 1600000 in
theorem newm_bad (N : Int) (w : World) (h : N < 1 ∨ 145 < N) :
    Calls Tryd.prog 21 #[.int .i64 N] w fun e w' => e = .returned (.tuple #[.pointer none, .int .i64 7]) ∧ w = w' := by
  by_cases h1 : N < 1
  · go_enter Tryd.func21, Tryd.ntmps21
    go_wp2
    go_ret2
    exact ⟨rfl, rfl⟩
  · have h2 : 145 < N := by omega
    clear h
    go_enter Tryd.func21, Tryd.ntmps21
    go_wp2
    go_ret2
    exact ⟨rfl, rfl⟩
set_option maxRecDepth 100000 in
set_option maxHeartbeats 1600000 in
theorem newm_ok (n : Nat) (w : World) (h1 : 1 ≤ n) (h2 : n ≤ 145) :
    Calls Tryd.prog 21 #[.int .i64 n] w fun e w' => e = .returned (.tuple #[.pointer (some ⟨w.heap.size + 1, 0, none⟩), .int .i64 0]) ∧
      TM w' w.heap.size (w.heap.size + 1) w.heap.size (newM n).st (newM n).m (newM n).r ∧ Below w.heap.size w w' := by
  have hmk := run_make_nodes n h2
  obtain ⟨cs, hcs⟩ : ∃ cs, cs = (ndCells (List.replicate n (nd0 0))).toArray := ⟨_, rfl⟩
  rw [← hcs] at hmk
  have HC := Lib.hid hcs
  clear hcs
  have HF := Lib.hid (bNew_ok n false ((w.alloc (.cells cs 90)).alloc (.cells #[.slice (some ⟨w.heap.size, 0, none⟩) n n, .int .i64 0, .slice none 0 0, .int .i64 1] 95)) (by omega))
  go_enter Tryd.func21, Tryd.ntmps21
  go_wp2_with fail
  refine HF.out.mono ?_
  rintro e w1 ⟨a, cap, rfl, hown, hb⟩
  have b1 : w1.heap[w.heap.size + 1]? = some (.cells #[.slice (some ⟨w.heap.size, 0, none⟩) n n, .int .i64 0, .slice none 0 0, .int .i64 1] 95 (0, 0)) := by
    rw [hb.block _ (by simp)]
    have := heap_alloc_new (w.alloc (.cells cs 90)) (.cells #[.slice (some ⟨w.heap.size, 0, none⟩) n n, .int .i64 0, .slice none 0 0, .int .i64 1] 95)
    rwa [World.size_alloc] at this
  have b0 : w1.heap[w.heap.size]? = some (.cells cs 90 (0, 0)) := by
    rw [hb.block _ (by simp; omega), Below.heap_alloc _ _ _ (by simp)]
    exact heap_alloc_new w _
  have p1 : w1.cell? ⟨w.heap.size + 1, 1, none⟩ = some (.int .i64 0) := by rw [cell_of_block b1]; rfl
  have p2 : w1.cell? ⟨w.heap.size + 1, 2, none⟩ = some (.slice none 0 0) := by rw [cell_of_block b1]; rfl
  have p0 : w1.cell? ⟨w.heap.size + 1, 0, none⟩ = some (.slice (some ⟨w.heap.size, 0, none⟩) n n) := by rw [cell_of_block b1]; rfl
  have p3 : ∀ j, w1.frozen? ⟨w.heap.size + 1, j, none⟩ = false := fun j => unfrozen_of_block b1 j
  have o2 := own_ne hown b1 u_map
  have hTM : TM ((w1.setCell ⟨w.heap.size + 1, 1, none⟩ (.int .i64 (n : Int))).setCell ⟨w.heap.size + 1, 2, none⟩ (.slice a ((n + 63) / 64) cap)) w.heap.size (w.heap.size + 1) w.heap.size (List.replicate n (nd0 0)) 1 (fun _ => false) := by
    refine ⟨by omega, Nat.le_refl _, by omega, by simpa using h1, by simpa using h2, ⟨a, cap, ?_, ?_⟩, ?_, fun _ _ => rfl⟩
    · rw [setCell_block (setCell_block b1 _) _]; simp
    · rw [List.length_replicate]
      have := ownsRow_setCell_other (ownsRow_setCell_other hown (a := ⟨w.heap.size + 1, 1, none⟩) o2 (.int .i64 (n : Int))) (a := ⟨w.heap.size + 1, 2, none⟩) o2 (.slice a ((n + 63) / 64) cap)
      have e : (fun i => false && decide (i < n)) = (fun _ => false : Nat → Bool) := by funext i; rfl
      rw [e] at this
      exact ownsRow_le this (by simp; omega)
    · rw [Below.heap_setCell _ _ _ _ (by dsimp only; omega), Below.heap_setCell _ _ _ _ (by dsimp only; omega), b0, HC.out]
  have HTM := Lib.hid hTM
  have HB : Hid (Below w.heap.size w ((w1.setCell ⟨w.heap.size + 1, 1, none⟩ (.int .i64 (n : Int))).setCell ⟨w.heap.size + 1, 2, none⟩ (.slice a ((n + 63) / 64) cap))) := Lib.hid (((((Below.refl w.heap.size w).alloc (Nat.le_refl _) _).alloc (by simp) _).trans (hb.mono (by simp; omega))).setCell (p := ⟨w.heap.size + 1, 1, none⟩) (by simp) _ |>.setCell (p := ⟨w.heap.size + 1, 2, none⟩) (by simp) _)
  have lpp : w.heap.size + 1 < w1.heap.size := blk_lt b1
  clear b1 b0 hown hb o2 hTM
  go_upto_region 5 with fail
  obtain ⟨W2, hW2⟩ : ∃ W, (w1.setCell ⟨w.heap.size + 1, 1, none⟩ (.int .i64 (n : Int))).setCell ⟨w.heap.size + 1, 2, none⟩ (.slice a ((n + 63) / 64) cap) = W := ⟨_, rfl⟩
  rw [hW2] at HTM HB ⊢
  clear hW2 p0 p1 p2 p3 lpp
  have d0 := HTM.out.c0
  rw [List.length_replicate] at d0
  have HD := Lib.hid d0
  clear d0
  have d0 := HD.out
  go_wp2_with fail
  clear d0
  go_loopw [29] (fun o wr => ∃ (k : Nat) (S : List Nd), o = .int .i64 k ∧ k ≤ n ∧ Hid (S.length = n) ∧ Hid (∀ j, j < n → S.getD j ndZ = if j < k then nd0 (-1) else nd0 0) ∧ Hid (TM wr w.heap.size (w.heap.size + 1) w.heap.size S 1 (fun _ => false)) ∧ Hid (Below w.heap.size w wr)) (fun o _ => n - (intOf o).toNat)
  case atStart =>
    refine ⟨0, List.replicate n (nd0 0), rfl, Nat.zero_le _, Lib.hid (List.length_replicate), Lib.hid (fun j hj => ?_), HTM, HB⟩
    rw [if_neg (by omega)]
    simp [List.getD, hj]
  case round =>
    obtain ⟨k, S, rfl, hk, HSl, HSg, HT, HBr⟩ := hrel
    have d0 := HT.out.c0
    rw [HSl.out] at d0
    by_cases hlt : k < n
    · have hk0 : (0 : Int) ≤ (k : Int) := by omega
      have hki : (k : Int) < (n : Int) := by omega
      have hkS : k < S.length := by rw [HSl.out]; exact hlt
      have s0 := HT.out.lv hkS
      have fq := HT.out.fq
      have lq := HT.out.lq
      have hx : S.getD k ndZ = nd0 0 := by rw [HSg.out k hlt, if_neg (by omega)]
      have h3 := HT.out.cellS hkS (j := 0) (v := .int .i64 (-1)) (y := nd0 (-1)) (by omega) (by rw [hx]; rfl)
      rw [Nat.add_zero] at h3
      have HT3 := Lib.hid h3.1
      have HB3 := Lib.hid (HBr.out.setCell (p := ⟨w.heap.size, k * 26, none⟩) (Nat.le_refl _) (.int .i64 (-1)))
      clear h3 hx hkS
      go_wp2
      go_roundw
      case rel =>
        refine ⟨k + 1, S.set k (nd0 (-1)), by go_num, by omega, Lib.hid (by rw [List.length_set]; exact HSl.out), Lib.hid (fun j hj => ?_), HT3, HB3⟩
        rw [N_set (by rw [HSl.out]; exact hlt)]
        by_cases e : j = k
        · rw [if_pos e, if_pos (by omega)]
        · rw [if_neg e, HSg.out j hj]
          by_cases c : j < k
          · rw [if_pos c, if_pos (by omega)]
          · rw [if_neg c, if_neg (by omega)]
      case measure => simp [intOf]; omega
    · obtain rfl : k = n := by omega
      have hS : S = List.replicate k (nd0 (-1)) := by
        refine List.ext_getElem (by rw [HSl.out, List.length_replicate]) fun j h1 h2 => ?_
        have hj : j < k := by rw [List.length_replicate] at h2; exact h2
        have := HSg.out j hj
        rw [if_pos hj, List.getD_eq_getElem?_getD, List.getElem?_eq_getElem h1] at this
        rw [List.getElem_replicate]
        simpa using this
      have HS := Lib.hid hS
      clear hS
      go_wp2_with fail
      refine (take_ok (i := 0) HT.out HBr.out.size (by rw [HSl.out]; exact h1) 0 (by omega)).mono ?_
      clear d0
      rintro e w5 ⟨rfl, h5, f5⟩
      have HM := Lib.hid (h5.many 1)
      have HB5 := Lib.hid ((Fr.below HBr.out f5 (by omega) (Nat.le_refl _) HBr.out.size).setCell (p := ⟨w.heap.size + 1, 3, none⟩) (by dsimp only; omega) (.int .i64 1))
      have p3 := h5.c3
      have pf := h5.fp
      have lpp := h5.lp
      clear h5 f5
      go_wp2
      go_ret2
      refine ⟨rfl, ?_, HB5.out⟩
      have := HM.out
      rw [HS.out] at this
      exact this
end Go.Proofs.YtfmclbacoffdaaaDoor
