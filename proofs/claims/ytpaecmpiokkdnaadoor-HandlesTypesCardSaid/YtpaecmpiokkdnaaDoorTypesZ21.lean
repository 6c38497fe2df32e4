/- Handles: the reference's New and Put. | Handles: the reference's Drop. -/
import Derived.Test.YtpaecmpiokkdnaaDoorTypesZ20
import Derived.RegionTactic
import Derived.BigRegion
namespace Go.Proofs.YtpaecmpiokkdnaaDoor
open Go.RowKit Go.Sort Go.Joins
attribute [local go_sem] cell_grow frozen_grow size_grow

set_option maxRecDepth 100000 in
set_option maxHeartbeats 1600000 in
theorem rnew_err (n : Int) (w : World) (h : n < 1 ∨ 1024 < n) :
    Calls Tryd.prog 46 #[.int .i64 n] w fun e w' => e = .returned (.tuple #[.agg #[.slice none 0 0, .slice none 0 0, .slice none 0 0], .int .i64 7]) ∧ Below w.heap.size w w' := by
  have bb := below_box0 w (.cells #[.slice none 0 0, .slice none 0 0, .slice none 0 0] 35)
  have HB := Lib.hid bb
  have key : (decide (n < 1) = true) ∨ (decide (n < 1) = false ∧ decide (1024 < n) = true) := by
    by_cases h1 : n < 1
    · exact .inl (by simpa using h1)
    · exact .inr ⟨by simpa using h1, by simp; omega⟩
  clear bb h
  rcases key with d1 | ⟨d1, d2⟩
  all_goals
    go_enter Tryd.func46, Tryd.ntmps46
    go_wp2
    refine bodyPost_ret (v := .tuple #[.agg #[.slice none 0 0, .slice none 0 0, .slice none 0 0], .int .i64 7]) (by simp [results, Tryd.f46, go_sem]) rfl ?_
    first | exact ⟨rfl, HB.out⟩ | exact ⟨rfl, ((HB.out.setCell (p := ⟨w.heap.size, 0, none⟩) (Nat.le_refl _) _).setCell (p := ⟨w.heap.size, 1, none⟩) (Nat.le_refl _) _).setCell (p := ⟨w.heap.size, 2, none⟩) (Nat.le_refl _) _⟩
theorem zeros_row (z : Value) (hz : z.cells = #[z]) (n : Nat) : madeCells z.cells n = (rowF n (fun _ => z)).toArray := by
  apply Array.ext_getElem?
  intro j
  rw [hz]
  by_cases h : j < n
  · simp [madeCells, rowF, h, Nat.mod_one]
  · simp [madeCells, rowF, h]
theorem run_make_ints (n : Nat) (hn : n ≤ 1024) (w : World) :
    (Instr.makeSlice 32 (.int .i64 (n : Int)) (.int .i64 (n : Int))).run Tryd.prog w = .ok (.slice (some ⟨w.heap.size, 0, none⟩) n n) (w.alloc (.cells (rowF n (fun _ => .int .i64 0)).toArray 3)) := by
  obtain ⟨i0, hi, hz0, hz1, hz2⟩ := info_parts info_int'
  have h := run_make (P := Tryd.prog) w 32 3 i0 _ Tryd.underlying32 hi hz0 .i64 .i64 n n (by omega) (by omega) (by rw [hz2]; omega) (by omega)
  rw [h, Int.toNat_natCast, hz1, Nat.mul_one, zeros_row _ rfl]
theorem run_make_bools (n : Nat) (hn : n ≤ 1024) (w : World) :
    (Instr.makeSlice 33 (.int .i64 (n : Int)) (.int .i64 (n : Int))).run Tryd.prog w = .ok (.slice (some ⟨w.heap.size, 0, none⟩) n n) (w.alloc (.cells (rowF n (fun _ => .bool false)).toArray 4)) := by
  obtain ⟨i0, hi, hz0, hz1, hz2⟩ := info_parts info_bool'
  have h := run_make (P := Tryd.prog) w 33 4 i0 _ Tryd.underlying33 hi hz0 .i64 .i64 n n (by omega) (by omega) (by rw [hz2]; omega) (by omega)
  rw [h, Int.toNat_natCast, hz1, Nat.mul_one, zeros_row _ rfl]
theorem al4 (w : World) (a b c d : Array Value) (t1 t2 t3 t4 : TypeId) :
    ((((w.alloc (.cells a t1)).alloc (.cells b t2)).alloc (.cells c t3)).alloc (.cells d t4)).drew.heap[w.heap.size + 1]? = some (.cells b t2 (0, 0)) ∧
    ((((w.alloc (.cells a t1)).alloc (.cells b t2)).alloc (.cells c t3)).alloc (.cells d t4)).drew.heap[w.heap.size + 1 + 1]? = some (.cells c t3 (0, 0)) ∧
    ((((w.alloc (.cells a t1)).alloc (.cells b t2)).alloc (.cells c t3)).alloc (.cells d t4)).drew.heap[w.heap.size + 1 + 1 + 1]? = some (.cells d t4 (0, 0)) := by
  have e1 := heap_alloc_new (w.alloc (.cells a t1)) (.cells b t2)
  have e2 := heap_alloc_new ((w.alloc (.cells a t1)).alloc (.cells b t2)) (.cells c t3)
  have e3 := heap_alloc_new (((w.alloc (.cells a t1)).alloc (.cells b t2)).alloc (.cells c t3)) (.cells d t4)
  simp only [World.size_alloc] at e1 e2 e3
  refine ⟨?_, ?_, e3⟩
  · exact (Below.heap_alloc _ _ _ (by simp only [World.size_alloc]; omega)).trans ((Below.heap_alloc _ _ _ (by simp only [World.size_alloc]; omega)).trans e1)
  · exact (Below.heap_alloc _ _ _ (by simp only [World.size_alloc]; omega)).trans e2
theorem bl4 (w : World) (a b c d : Obj) : Below w.heap.size w ((((w.alloc a).alloc b).alloc c).alloc d).drew :=
  ((((((Below.refl _ w).alloc (Nat.le_refl _) a).alloc (by simp) b).alloc (by simp; omega) c).alloc (by simp; omega) d)).drew
theorem own_new {w : World} {n : Nat} {e : TypeId} {f : Nat → Value} {g : Nat} (hg : w.heap[g]? = some (.cells (rowF n f).toArray e (0, 0))) (hn : n ≤ 1024) {B : Nat} (hB : B ≤ g) : w.ownsRow B e 1 (.slice (some ⟨g, 0, none⟩) n n) n (rowF n f) :=
  ⟨by rw [rowF_length, Nat.mul_one], .inr ⟨g, n, _, rfl, hB, hg, Nat.le_refl _, by unfold maxLen; omega, by simp [rowF_length], by simp [rowF, List.take_of_length_le]⟩⟩
theorem rs_new {w : World} {n g0 g1 g2 : Nat} (h0 : w.heap[g0]? = some (.cells (rowF n (fun _ => .int .i64 0)).toArray 3 (0, 0))) (h1 : w.heap[g1]? = some (.cells (rowF n (fun _ => .bool false)).toArray 4 (0, 0))) (h2 : w.heap[g2]? = some (.cells (rowF n (fun _ => .int .i64 0)).toArray 3 (0, 0))) (hn : n ≤ 1024) (h02 : g0 ≠ g2) :
    ROA w (.agg #[.slice (some ⟨g0, 0, none⟩) n n, .slice (some ⟨g1, 0, none⟩) n n, .slice (some ⟨g2, 0, none⟩) n n]) (List.replicate n (0, false, .int .i64 0)) := by
  have hget : ∀ j, j < n → (List.replicate n ((0, false, .int .i64 0) : Slt)).getD j (0, false, undef) = (0, false, .int .i64 0) := fun j hj => by simp [List.getD_eq_getElem?_getD, hj]
  refine OA.roa (B := 0) List.length_replicate ?_
  refine OA.congr (f0 := fun _ => .int .i64 0) (f1 := fun _ => .bool false) (f2 := fun _ => .int .i64 0) ⟨own_new h0 hn (Nat.zero_le _), own_new h1 hn (Nat.zero_le _), own_new h2 hn (Nat.zero_le _), fun g e e' => ?_⟩ (fun j hj => ?_) (fun j hj => ?_) (fun j hj => ?_)
  · simp only [Value.ownBlock, Option.some.injEq] at e e'
    omega
  · dsimp only [zI, gF]; rw [hget j hj]; rfl
  · dsimp only [zB, aF]; rw [hget j hj]
  · dsimp only [vF]; rw [hget j hj]

set_option maxRecDepth 100000 in
set_option maxHeartbeats 3200000 in
theorem rnew_ok (n : Nat) (w : World) (h1 : 1 ≤ n) (h2 : n ≤ 1024) :
    Calls Tryd.prog 46 #[.int .i64 n] w fun e w' => ∃ x, e = .returned (.tuple #[x, .int .i64 0]) ∧ ROA w' x (List.replicate n (0, false, .int .i64 0)) ∧ Below w.heap.size w w' := by
  have bb := below_box0 w (.cells #[.slice none 0 0, .slice none 0 0, .slice none 0 0] 35)
  have HB := Lib.hid bb
  have d1 : decide ((n : Int) < 1) = false := by simp; omega
  have d2 : decide ((1024 : Int) < (n : Int)) = false := by simp; omega
  have d3 : decide (1024 < n) = false := by simp; omega
  have m1 := run_make_ints n h2
  have m2 := run_make_bools n h2
  clear bb
  go_enter Tryd.func46, Tryd.ntmps46
  go_wp2
  go_region
  all_goals go_wp2
  all_goals first
    | (refine bodyPost_ret (v := .tuple #[.agg #[.slice (some ⟨w.heap.size + 1, 0, none⟩) n n, .slice (some ⟨w.heap.size + 1 + 1, 0, none⟩) n n, .slice (some ⟨w.heap.size + 1 + 1 + 1, 0, none⟩) n n], .int .i64 0]) ?_ rfl ?_
       · (simp [results, Tryd.f46, go_sem]; done)
       · refine ⟨_, rfl, ?_, ?_⟩
         · exact rs_new (al4 w _ _ _ _ _ _ _ _).1 (al4 w _ _ _ _ _ _ _ _).2.1 (al4 w _ _ _ _ _ _ _ _).2.2 h2 (by omega)
         · exact bl4 w _ _ _ _)
    | (refine bodyPost_ret (v := .tuple #[.agg #[.slice (some ⟨w.heap.size + 1, 0, none⟩) n n, .slice (some ⟨w.heap.size + 1 + 1 + 1, 0, none⟩) n n, .slice (some ⟨w.heap.size + 1 + 1, 0, none⟩) n n], .int .i64 0]) ?_ rfl ?_
       · (simp [results, Tryd.f46, go_sem]; done)
       · refine ⟨_, rfl, ?_, ?_⟩
         · exact rs_new (al4 w _ _ _ _ _ _ _ _).1 (al4 w _ _ _ _ _ _ _ _).2.2 (al4 w _ _ _ _ _ _ _ _).2.1 h2 (by omega)
         · exact bl4 w _ _ _ _)
    | (refine bodyPost_ret (v := .tuple #[.agg #[.slice (some ⟨w.heap.size + 1 + 1, 0, none⟩) n n, .slice (some ⟨w.heap.size + 1, 0, none⟩) n n, .slice (some ⟨w.heap.size + 1 + 1 + 1, 0, none⟩) n n], .int .i64 0]) ?_ rfl ?_
       · (simp [results, Tryd.f46, go_sem]; done)
       · refine ⟨_, rfl, ?_, ?_⟩
         · exact rs_new (al4 w _ _ _ _ _ _ _ _).2.1 (al4 w _ _ _ _ _ _ _ _).1 (al4 w _ _ _ _ _ _ _ _).2.2 h2 (by omega)
         · exact bl4 w _ _ _ _)
    | (refine bodyPost_ret (v := .tuple #[.agg #[.slice (some ⟨w.heap.size + 1 + 1, 0, none⟩) n n, .slice (some ⟨w.heap.size + 1 + 1 + 1, 0, none⟩) n n, .slice (some ⟨w.heap.size + 1, 0, none⟩) n n], .int .i64 0]) ?_ rfl ?_
       · (simp [results, Tryd.f46, go_sem]; done)
       · refine ⟨_, rfl, ?_, ?_⟩
         · exact rs_new (al4 w _ _ _ _ _ _ _ _).2.1 (al4 w _ _ _ _ _ _ _ _).2.2 (al4 w _ _ _ _ _ _ _ _).1 h2 (by omega)
         · exact bl4 w _ _ _ _)
    | (refine bodyPost_ret (v := .tuple #[.agg #[.slice (some ⟨w.heap.size + 1 + 1 + 1, 0, none⟩) n n, .slice (some ⟨w.heap.size + 1, 0, none⟩) n n, .slice (some ⟨w.heap.size + 1 + 1, 0, none⟩) n n], .int .i64 0]) ?_ rfl ?_
       · (simp [results, Tryd.f46, go_sem]; done)
       · refine ⟨_, rfl, ?_, ?_⟩
         · exact rs_new (al4 w _ _ _ _ _ _ _ _).2.2 (al4 w _ _ _ _ _ _ _ _).1 (al4 w _ _ _ _ _ _ _ _).2.1 h2 (by omega)
         · exact bl4 w _ _ _ _)
    | (refine bodyPost_ret (v := .tuple #[.agg #[.slice (some ⟨w.heap.size + 1 + 1 + 1, 0, none⟩) n n, .slice (some ⟨w.heap.size + 1 + 1, 0, none⟩) n n, .slice (some ⟨w.heap.size + 1, 0, none⟩) n n], .int .i64 0]) ?_ rfl ?_
       · (simp [results, Tryd.f46, go_sem]; done)
       · refine ⟨_, rfl, ?_, ?_⟩
         · exact rs_new (al4 w _ _ _ _ _ _ _ _).2.2 (al4 w _ _ _ _ _ _ _ _).2.1 (al4 w _ _ _ _ _ _ _ _).1 h2 (by omega)
         · exact bl4 w _ _ _ _)
theorem rdyF_no {st : List Slt} {j : Nat} (hj : j < st.length) (h : rdyF st j = false) (hg : (st.getD j (0, false, undef)).1 ≤ 65535) : (st.getD j (0, false, undef)).2.1 = true ∨ (st.getD j (0, false, undef)).1 = 65535 := by
  unfold rdyF rdy at h
  cases ha : (st.getD j (0, false, undef)).2.1 with
  | true => exact .inl rfl
  | false =>
    rw [ha] at h
    simp [hj] at h
    right; simp only [List.getD_eq_getElem?_getD] at hg ⊢; simp [hj] at hg ⊢; omega
section
variable {st : List Slt} {ga aa va : Option Addr} {gc ac vc : Nat}
set_option maxRecDepth 100000 in
set_option maxHeartbeats 6400000 in
theorem rput_full (v : Int) (w : World) (hr : RA w st ga aa va) (hn : st.length ≤ 1024) (hg : ∀ j, j < st.length → (st.getD j (0, false, undef)).1 ≤ 65535) (hf : ∀ j, j < st.length → rdyF st j = false) :
    Calls Tryd.prog 72 #[.agg #[.slice ga st.length gc, .slice aa st.length ac, .slice va st.length vc], .int .i64 v] w fun e w' => e = .returned (.tuple #[.agg #[.slice ga st.length gc, .slice aa st.length ac, .slice va st.length vc], .int .i64 0, .int .i64 5]) ∧ Below w.heap.size w w' := by
  have bb := (below_box0 w (.cells #[.slice ga st.length gc, .slice aa st.length ac, .slice va st.length vc] 35)).trans ((below_box0 (w.alloc (.cells #[.slice ga st.length gc, .slice aa st.length ac, .slice va st.length vc] 35)) (.cells #[.slice none 0 0, .slice none 0 0, .slice none 0 0] 35)).mono (by simp))
  have HB := Lib.hid bb
  have HR := Lib.hid (hr.below bb)
  have HG := Lib.hid hg
  have HF := Lib.hid hf
  obtain ⟨n, hnn⟩ : ∃ n, st.length = n := ⟨_, rfl⟩
  have HN := Lib.hid hnn
  clear bb hr hg hf
  rw [hnn] at HB HR hn ⊢
  clear hnn
  go_enter Tryd.func72, Tryd.ntmps72
  go_wp2
  go_loop [7] (fun x => ∃ j : Nat, j ≤ n ∧ x = .int .i64 j) (fun x => n - (intOf x).toNat)
  case atStart => exact ⟨0, Nat.zero_le _, rfl⟩
  case round =>
    obtain ⟨j, hj, rfl⟩ := hrel
    by_cases hjl : j < n
    · have hj' : j < st.length := by rw [HN.out]; exact hjl
      obtain ⟨b0, o0, h0, c0⟩ := HR.out.g.at_ hj'
      obtain ⟨b1, o1, h1, c1⟩ := HR.out.a.at_ hj'
      subst h0 h1
      have hno := rdyF_no hj' (HF.out j hj') (HG.out j hj')
      obtain ⟨⟨g, al, vl⟩, hS⟩ : ∃ s, st.getD j (0, false, undef) = s := ⟨_, rfl⟩
      dsimp only [zI, zB, gF, aF] at c0 c1
      rw [hS] at c0 c1 hno
      dsimp only at c0 c1 hno
      have j0 : (0 : Int) ≤ (j : Int) := by omega
      have j1 : (j : Int) < (n : Int) := by omega
      have j2 : decide ((j : Int) < (n : Int)) = true := by simp; omega
      have j3 : decide (j < n) = true := by simpa using hjl
      clear hS
      cases al with
      | true =>
        clear hno
        go_wp2
        go_round
        case rel => exact ⟨j + 1, by omega, by go_num⟩
        case measure => simp [intOf]; omega
      | false =>
        have hg5 : g = 65535 := by simpa using hno
        have q1 : ((g : Int) == 65535) = true := by simp; omega
        clear hno hg5
        go_wp2
        go_round
        case rel => exact ⟨j + 1, by omega, by go_num⟩
        case measure => simp [intOf]; omega
    · have j2 : decide ((j : Int) < (n : Int)) = false := by simp; omega
      have j3 : decide (j < n) = false := by simpa using hjl
      go_wp2
      refine bodyPost_ret (v := .tuple #[.agg #[.slice ga n gc, .slice aa n ac, .slice va n vc], .int .i64 0, .int .i64 5]) (by simp [results, Tryd.f72, go_sem]) rfl ?_
      exact ⟨rfl, ((Below.refl _ _).alloc (Nat.le_refl _) _).alloc (by simp) _⟩
end
end Go.Proofs.YtpaecmpiokkdnaaDoor

namespace Go.Proofs.YtpaecmpiokkdnaaDoor
open Go.RowKit Go.Sort Go.Joins
attribute [local go_sem] cell_grow frozen_grow size_grow

/-- what a cell holds -/
def valAt (w : World) (k j : Nat) : Value := (w.cell? ⟨k, j, none⟩).getD undef
/-- all but one block is as it was; that one is a box of a state -/
structure BX (k : Nat) (W w' : World) : Prop where
  os : w'.os = W.os
  tape : w'.tape = W.tape
  output : w'.output = W.output
  size : W.heap.size ≤ w'.heap.size
  block : ∀ j, j < W.heap.size → j ≠ k → w'.heap[j]? = W.heap[j]?
  has : ∃ a b c, w'.heap[k]? = some (.cells #[a, b, c] 35 (0, 0))
theorem BX.drew {k : Nat} {W w' : World} (h : BX k W w') : BX k W w'.drew := ⟨h.os, h.tape, h.output, h.size, h.block, h.has⟩
theorem BX.cell {k b o : Nat} {W w' : World} {v : Value} (h : BX k W w') (c : W.cell? ⟨b, o, none⟩ = some v) (hb : b ≠ k) : w'.cell? ⟨b, o, none⟩ = some v := by
  rw [World.cell?_of_block (w := W) (h.block b (World.block_lt_of_cell? _ _ c) hb)]; exact c
theorem BX.own {k base size n : Nat} {W w' : World} {e : TypeId} {v : Value} {xs : List Value} (h : BX k W w') (ho : W.ownsRow base e size v n xs) (hk : k < base) : w'.ownsRow base e size v n xs :=
  own_same ho fun g hg => h.block g (ho.lt g hg).2 (by have := (ho.lt g hg).1; omega)
theorem BX.oa {k B n : Nat} {W w' : World} {f0 f1 f2 : Nat → Value} {r0 r1 r2 : Value} (h : BX k W w') (ho : OA W B n f0 f1 f2 r0 r1 r2) (hk : k < B) : OA w' B n f0 f1 f2 r0 r1 r2 :=
  ⟨h.own ho.o0 hk, h.own ho.o1 hk, h.own ho.o2 hk, ho.n02⟩
theorem BX.at_ {k : Nat} {W w' : World} (h : BX k W w') : w'.cell? ⟨k, 0, none⟩ = some (valAt w' k 0) ∧ w'.cell? ⟨k, 1, none⟩ = some (valAt w' k 1) ∧ w'.cell? ⟨k, 2, none⟩ = some (valAt w' k 2) ∧ w'.frozen? ⟨k, 0, none⟩ = false ∧ w'.frozen? ⟨k, 1, none⟩ = false ∧ w'.frozen? ⟨k, 2, none⟩ = false := by
  obtain ⟨a, b, c, h⟩ := h.has
  have e0 : w'.cell? ⟨k, 0, none⟩ = some a := by rw [cell_of_block h]; rfl
  have e1 : w'.cell? ⟨k, 1, none⟩ = some b := by rw [cell_of_block h]; rfl
  have e2 : w'.cell? ⟨k, 2, none⟩ = some c := by rw [cell_of_block h]; rfl
  unfold valAt
  rw [e0, e1, e2]
  exact ⟨rfl, rfl, rfl, unfrozen_of_block h 0, unfrozen_of_block h 1, unfrozen_of_block h 2⟩
theorem keepX {k : Nat} {W nxt : World} {C : World → Prop} (hC : Hid (∀ w', BX k W w' → C w')) (h : BX k W nxt) : BX k W nxt ∧ C nxt := ⟨h, hC.out _ h⟩
theorem bx_call {k : Nat} {W cur nxt : World} {C : Prop} (h : BX k W cur ∧ C) (hb : Below cur.heap.size cur nxt) : BX k W nxt := by
  refine ⟨hb.os.trans h.1.os, hb.tape.trans h.1.tape, hb.output.trans h.1.output, Nat.le_trans h.1.size hb.size, fun j hj hk => (hb.block j (Nat.lt_of_lt_of_le hj h.1.size)).trans (h.1.block j hj hk), ?_⟩
  obtain ⟨a, b, c, e⟩ := h.1.has
  exact ⟨a, b, c, (hb.block k (blk_lt e)).trans e⟩
theorem BX.set {k j : Nat} {W cur : World} (h : BX k W cur) (hj : j < 3) (v : Value) : BX k W (cur.setCell ⟨k, j, none⟩ v) := by
  refine ⟨h.os, h.tape, h.output, by simp only [World.size_setCell]; exact h.size, fun i hi hk => (Below.heap_setCell _ _ _ _ hk).trans (h.block i hi hk), ?_⟩
  obtain ⟨a, b, c, e⟩ := h.has
  rcases (by omega : j = 0 ∨ j = 1 ∨ j = 2) with rfl | rfl | rfl
  · exact ⟨v, b, c, by rw [setCell_block e]; rfl⟩
  · exact ⟨a, v, c, by rw [setCell_block e]; rfl⟩
  · exact ⟨a, b, v, by rw [setCell_block e]; rfl⟩
theorem bx_sets {k : Nat} {W cur : World} {C : Prop} (h : BX k W cur ∧ C) (u v x : Value) : BX k W (((cur.setCell ⟨k, 0, none⟩ u).setCell ⟨k, 1, none⟩ v).setCell ⟨k, 2, none⟩ x) :=
  ((h.1.set (by decide) u).set (by decide) v).set (by decide) x
section
variable {st : List Slt} {ga aa va : Option Addr} {gc ac vc : Nat}
set_option maxRecDepth 100000 in
set_option maxHeartbeats 3200000 in
theorem rdrop_err (h : Int) (w : World) (hr : RA w st ga aa va) (hn : st.length ≤ 1024) (he : findE st h ≠ 0) :
    Calls Tryd.prog 71 #[.agg #[.slice ga st.length gc, .slice aa st.length ac, .slice va st.length vc], .int .i64 h] w fun e w' => e = .returned (.tuple #[.agg #[.slice ga st.length gc, .slice aa st.length ac, .slice va st.length vc], .int .i64 0, .int .i64 (findE st h)]) ∧ Below w.heap.size w w' := by
  have bb := (below_box0 w (.cells #[.slice ga st.length gc, .slice aa st.length ac, .slice va st.length vc] 35)).trans ((below_box0 (w.alloc (.cells #[.slice ga st.length gc, .slice aa st.length ac, .slice va st.length vc] 35)) (.cells #[.slice none 0 0, .slice none 0 0, .slice none 0 0] 35)).mono (by simp))
  have HB := Lib.hid bb
  have HR := Lib.hid (hr.below bb)
  have hq := bne0_true he
  clear bb hr he
  go_enter Tryd.func71, Tryd.ntmps71
  go_wp2_with fail
  refine (rfind_ok h _ HR.out hn).mono ?_
  rintro e w1 ⟨rfl, b1⟩
  have k0 : w1.cell? ⟨w.heap.size, 0, none⟩ = some (.slice ga st.length gc) := (b1.cell (p := ⟨w.heap.size, 0, none⟩) (by simp; omega)).trans (by simp [go_sem])
  have k1 : w1.cell? ⟨w.heap.size, 1, none⟩ = some (.slice aa st.length ac) := (b1.cell (p := ⟨w.heap.size, 1, none⟩) (by simp; omega)).trans (by simp [go_sem])
  have k2 : w1.cell? ⟨w.heap.size, 2, none⟩ = some (.slice va st.length vc) := (b1.cell (p := ⟨w.heap.size, 2, none⟩) (by simp; omega)).trans (by simp [go_sem])
  have q0 : w1.cell? ⟨w.heap.size + 1, 0, none⟩ = some (.slice none 0 0) := (b1.cell (p := ⟨w.heap.size + 1, 0, none⟩) (by simp)).trans (by simp [go_sem])
  have q1 : w1.cell? ⟨w.heap.size + 1, 1, none⟩ = some (.slice none 0 0) := (b1.cell (p := ⟨w.heap.size + 1, 1, none⟩) (by simp)).trans (by simp [go_sem])
  have q2 : w1.cell? ⟨w.heap.size + 1, 2, none⟩ = some (.slice none 0 0) := (b1.cell (p := ⟨w.heap.size + 1, 2, none⟩) (by simp)).trans (by simp [go_sem])
  have qz : ∀ j, w1.frozen? ⟨w.heap.size + 1, j, none⟩ = false := fun j => (b1.frozen (p := ⟨w.heap.size + 1, j, none⟩) (by simp)).trans (by simp [go_sem])
  have HB1 := Lib.hid (HB.out.trans (b1.mono (by simp; omega)))
  clear b1
  go_wp2
  refine bodyPost_ret (v := .tuple #[.agg #[.slice ga st.length gc, .slice aa st.length ac, .slice va st.length vc], .int .i64 0, .int .i64 (findE st h)]) (by simp [results, Tryd.f71, go_sem, q0, q1, q2]) rfl ?_
  exact ⟨rfl, ((HB1.out.setCell (p := ⟨w.heap.size + 1, 0, none⟩) (by dsimp only; omega) _).setCell (p := ⟨w.heap.size + 1, 1, none⟩) (by dsimp only; omega) _).setCell (p := ⟨w.heap.size + 1, 2, none⟩) (by dsimp only; omega) _⟩
set_option maxRecDepth 100000 in
set_option maxHeartbeats 6400000 in
theorem rdrop_ok (h : Int) (i : Nat) (w : World) (hr : RA w st ga aa va) (hI : IV st) (hZ : DZ st) (h1 : 1 ≤ st.length) (hn : st.length ≤ 1024) (he : findE st h = 0) (hi : slotI h = i) :
    Calls Tryd.prog 71 #[.agg #[.slice ga st.length gc, .slice aa st.length ac, .slice va st.length vc], .int .i64 h] w fun e w' => ∃ x, e = .returned (.tuple #[x, (st.getD i (0, false, undef)).2.2, .int .i64 0]) ∧
      ROA w' x (st.set i ((st.getD i (0, false, undef)).1, false, .int .i64 0)) ∧ Below w.heap.size w w' := by
  obtain ⟨i', hi', hlt, hal, _⟩ := Int.findE_zero he
  obtain rfl : i' = i := by omega
  have bb := (below_box0 w (.cells #[.slice ga st.length gc, .slice aa st.length ac, .slice va st.length vc] 35)).trans ((below_box0 (w.alloc (.cells #[.slice ga st.length gc, .slice aa st.length ac, .slice va st.length vc] 35)) (.cells #[.slice none 0 0, .slice none 0 0, .slice none 0 0] 35)).mono (by simp))
  have HB := Lib.hid bb
  have HR := Lib.hid (hr.below bb)
  have HF := Lib.hid (findI_at he hi)
  have HE := Lib.hid he
  have HI := Lib.hid hI
  have HZ := Lib.hid hZ
  obtain ⟨old, hold⟩ := hI i' hlt
  have hold' : vF st i' = .int .i64 old := hold
  have hold2 : (st.getD i' (0, false, undef)).2.2 = .int .i64 old := hold
  rw [hold2]
  have hal' : aF st i' = true := hal
  have HO := Lib.hid hold'
  have HAL := Lib.hid hal'
  obtain ⟨n, hnn⟩ : ∃ n, st.length = n := ⟨_, rfl⟩
  have i0 : (0 : Int) ≤ (i' : Int) := by omega
  have i1 : (i' : Int) < (n : Int) := by omega
  have HN := Lib.hid hnn
  have hfd := fun W (hr : RA W st ga aa va) => rfind_ok (gc := gc) (ac := ac) (vc := vc) h W hr hn
  have hcd := fun W (hr : RA W st ga aa va) => copy_st (gc := gc) (ac := ac) (vc := vc) W hr HI.out HZ.out h1 hn
  simp only [hnn] at hfd hcd
  have HFD := Lib.hid hfd
  have HCD := Lib.hid hcd
  clear hfd hcd
  have h1' : 1 ≤ n := by omega
  have hl' : i' < n := by omega
  have HL := Lib.hid hlt
  obtain ⟨vb, vo, hva, cv0⟩ := (hr.below bb).v.at_ hlt
  rw [hold'] at cv0
  clear bb hr he hi hi' hI hZ hold hold' hold2 hal hal' hlt
  rw [hnn] at HB HR cv0 ⊢
  have hvl := World.block_lt_of_cell? _ _ cv0
  simp only [World.size_alloc] at hvl
  have HCV := Lib.hid cv0
  have HVA := Lib.hid hva
  clear hnn cv0 hva
  go_enter Tryd.func71, Tryd.ntmps71
  go_wp2_with fail
  refine (HFD.out _ HR.out).mono ?_
  rintro e w1 ⟨rfl, b1⟩
  rw [HF.out, HE.out]
  have k0 : w1.cell? ⟨w.heap.size, 0, none⟩ = some (.slice ga n gc) := (b1.cell (p := ⟨w.heap.size, 0, none⟩) (by simp; omega)).trans (by simp [go_sem])
  have k1 : w1.cell? ⟨w.heap.size, 1, none⟩ = some (.slice aa n ac) := (b1.cell (p := ⟨w.heap.size, 1, none⟩) (by simp; omega)).trans (by simp [go_sem])
  have k2 : w1.cell? ⟨w.heap.size, 2, none⟩ = some (.slice va n vc) := (b1.cell (p := ⟨w.heap.size, 2, none⟩) (by simp; omega)).trans (by simp [go_sem])
  have hx1 : w1.heap[w.heap.size + 1]? = some (.cells #[.slice none 0 0, .slice none 0 0, .slice none 0 0] 35 (0, 0)) := (b1.block _ (by simp)).trans (by have := heap_alloc_new (w.alloc (.cells #[.slice ga n gc, .slice aa n ac, .slice va n vc] 35)) (.cells #[.slice none 0 0, .slice none 0 0, .slice none 0 0] 35); rwa [World.size_alloc] at this)
  have hx0 : w1.heap[w.heap.size]? = some (.cells #[.slice ga n gc, .slice aa n ac, .slice va n vc] 35 (0, 0)) := (b1.block _ (by simp; omega)).trans ((Below.heap_alloc _ _ _ (by simp)).trans (heap_alloc_new w _))
  have HB1 := Lib.hid (HB.out.trans (b1.mono (by simp; omega)))
  have HR1 := Lib.hid (HR.out.below b1)
  have HX1 := Lib.hid hx1
  have HX0 := Lib.hid hx0
  have hcv1 := (b1.cell (p := ⟨vb, vo + i', none⟩) (by simp; omega)).trans HCV.out
  have HCV1 := Lib.hid hcv1
  clear b1 hx1 hx0 hcv1
  go_wp2_with fail
  refine (HCD.out w1 HR1.out).mono ?_
  rintro e w2 ⟨a0, q0, a1, q1, a2, q2, rfl, o2, b2⟩
  have HX2 := Lib.hid ((b2.block _ (blk_lt HX1.out)).trans HX1.out)
  have HX3 := Lib.hid ((b2.block _ (blk_lt HX0.out)).trans HX0.out)
  have HB2 := Lib.hid (HB1.out.trans (b2.mono HB1.out.size))
  have hcv2 := (b2.cell (p := ⟨vb, vo + i', none⟩) (World.block_lt_of_cell? _ _ HCV1.out)).trans HCV1.out
  obtain ⟨g, hg, hgB, hgl, hgz, hgc⟩ := o2.blk1 (by omega)
  subst hg
  have hs1 := blk_lt HX1.out
  have hgc' := hgc i' hl'
  dsimp only [zB] at hgc'
  rw [HAL.out] at hgc'
  have gz := hgz i'
  have ho4 := o2.set1 hl' (.bool false)
  have hs2 : w.heap.size + 1 < w2.heap.size := blk_lt HX2.out
  have ne1 : g ≠ w2.heap.size := by omega
  have ne3 : w2.heap.size ≠ g := by omega
  have hcl := World.block_lt_of_cell? _ _ HCV1.out
  dsimp only at hcl
  have HHG := Lib.hid hgB
  clear hgc hgz
  go_wp2
  obtain ⟨W, hW⟩ : ∃ W, (w2.setCell ⟨g, i', none⟩ (.bool false)).alloc (.cells #[.slice a0 n q0, .slice (some ⟨g, 0, none⟩) n q1, .slice a2 n q2] 35) = W := ⟨_, rfl⟩
  have hbx : W.heap[w2.heap.size]? = some (.cells #[.slice a0 n q0, .slice (some ⟨g, 0, none⟩) n q1, .slice a2 n q2] 35 (0, 0)) := by rw [← hW]; have := heap_alloc_new (w2.setCell ⟨g, i', none⟩ (.bool false)) (.cells #[.slice a0 n q0, .slice (some ⟨g, 0, none⟩) n q1, .slice a2 n q2] 35); rwa [World.size_setCell] at this
  have hbs : W.heap[w.heap.size]? = some (.cells #[.slice ga n gc, .slice aa n ac, .slice va n vc] 35 (0, 0)) := by rw [← hW, Below.heap_alloc _ _ _ (by rw [World.size_setCell]; omega), Below.heap_setCell _ _ _ _ (by dsimp only; omega)]; exact HX3.out
  have hbr : W.heap[w.heap.size + 1]? = some (.cells #[.slice none 0 0, .slice none 0 0, .slice none 0 0] 35 (0, 0)) := by rw [← hW, Below.heap_alloc _ _ _ (by rw [World.size_setCell]; omega), Below.heap_setCell _ _ _ _ (by dsimp only; omega)]; exact HX2.out
  have hcv3 : W.cell? ⟨vb, vo + i', none⟩ = some (.int .i64 old) := by
    have hbl : W.heap[vb]? = w2.heap[vb]? := by rw [← hW, Below.heap_alloc _ _ _ (by rw [World.size_setCell]; omega)]; exact Below.heap_setCell _ _ _ _ (by dsimp only; omega)
    rw [World.cell?_of_block (w := w2) hbl]; exact hcv2
  have hkW : Below w.heap.size w W := by rw [← hW]; exact (HB2.out.setCell (p := ⟨g, i', none⟩) (by dsimp only; have := HB1.out.size; omega) _).alloc (by rw [World.size_setCell]; exact HB2.out.size) _
  have hoW : OA W (w1.heap.size + 2) n (zI (gF st)) (fun j => if j = i' then Value.bool false else zB (aF st) j) (vF st) (.slice a0 n q0) (.slice (some ⟨g, 0, none⟩) n q1) (.slice a2 n q2) := by rw [← hW]; exact ho4.below (below_box0 _ _)
  rw [hW]
  have hsW := blk_lt hbx
  have t0 : W.cell? ⟨w2.heap.size, 0, none⟩ = some (.slice a0 n q0) := by rw [cell_of_block hbx]; rfl
  have t1 : W.cell? ⟨w2.heap.size, 1, none⟩ = some (.slice (some ⟨g, 0, none⟩) n q1) := by rw [cell_of_block hbx]; rfl
  have t2 : W.cell? ⟨w2.heap.size, 2, none⟩ = some (.slice a2 n q2) := by rw [cell_of_block hbx]; rfl
  have s2 : W.cell? ⟨w.heap.size, 2, none⟩ = some (.slice va n vc) := by rw [cell_of_block hbs]; rfl
  rw [HVA.out] at s2
  have HBR := Lib.hid hbr
  have HKW := Lib.hid hkW
  obtain ⟨V, hV⟩ : ∃ V : Nat → Value, ∀ j, V j = if j < st.length then vF st j else .int .i64 0 := ⟨_, fun _ => rfl⟩
  obtain ⟨A', hA'⟩ : ∃ A' : Nat → Bool, ∀ j, A' j = if j = i' then false else aF st j := ⟨_, fun _ => rfl⟩
  have hkB : w.heap.size + 1 < w1.heap.size + 2 := by omega
  have hcp := fun W' (hx : BX (w.heap.size + 1) W W') => copy_ok (gc := q0) (ac := q1) (vc := q2) W' (G := gF st) (A := A') (V := V) (SlF.of_row (hx.oa hoW hkB).o0) ((SlF.of_row (hx.oa hoW hkB).o1).congr (fun j hj => by dsimp only [zB]; rw [hA']; by_cases e : j = i' <;> simp [e])) ((SlF.of_row (hx.oa hoW hkB).o2).congr (fun j hj => by rw [hV, if_pos (by rw [HN.out]; exact hj)])) (vF_all HI.out V hV) h1' (by have := HN.out; omega)
  have HCP := Lib.hid hcp
  have HVV := Lib.hid hV
  have HAA := Lib.hid hA'
  clear hW hbx hbs hbr hkW hoW ho4 o2 b2 hcv2 hgc' gz hcp hV hA'
  have hvk : vb ≠ w.heap.size + 1 := fun e => by
    subst e
    have := cell_of_block HBR.out (i := vo + i')
    rw [hcv3] at this
    rcases hvo : vo + i' with _ | _ | _ | m <;> rw [hvo] at this <;> simp at this
  have hX0 : BX (w.heap.size + 1) W W := ⟨rfl, rfl, rfl, Nat.le_refl _, fun _ _ _ => rfl, ⟨_, _, _, HBR.out⟩⟩
  have HX0 := Lib.hid hX0
  have HC : Hid (∀ w', BX (w.heap.size + 1) W w' → w'.cell? ⟨w2.heap.size, 0, none⟩ = some (.slice a0 n q0) ∧ w'.cell? ⟨w2.heap.size, 1, none⟩ = some (.slice (some ⟨g, 0, none⟩) n q1) ∧ w'.cell? ⟨w2.heap.size, 2, none⟩ = some (.slice a2 n q2) ∧ w'.cell? ⟨w.heap.size, 2, none⟩ = some (.slice (some ⟨vb, vo, none⟩) n vc) ∧ w'.cell? ⟨vb, vo + i', none⟩ = some (.int .i64 old) ∧ w'.cell? ⟨w.heap.size + 1, 0, none⟩ = some (valAt w' (w.heap.size + 1) 0) ∧ w'.cell? ⟨w.heap.size + 1, 1, none⟩ = some (valAt w' (w.heap.size + 1) 1) ∧ w'.cell? ⟨w.heap.size + 1, 2, none⟩ = some (valAt w' (w.heap.size + 1) 2) ∧ w'.frozen? ⟨w.heap.size + 1, 0, none⟩ = false ∧ w'.frozen? ⟨w.heap.size + 1, 1, none⟩ = false ∧ w'.frozen? ⟨w.heap.size + 1, 2, none⟩ = false) :=
    Lib.hid (fun w' h => ⟨h.cell t0 (by omega), h.cell t1 (by omega), h.cell t2 (by omega), h.cell s2 (by omega), h.cell hcv3 hvk, h.at_⟩)
  clear hX0
  go_region_held3 (fun w' => BX (w.heap.size + 1) W w' ∧ w'.cell? ⟨w2.heap.size, 0, none⟩ = some (.slice a0 n q0) ∧ w'.cell? ⟨w2.heap.size, 1, none⟩ = some (.slice (some ⟨g, 0, none⟩) n q1) ∧ w'.cell? ⟨w2.heap.size, 2, none⟩ = some (.slice a2 n q2) ∧ w'.cell? ⟨w.heap.size, 2, none⟩ = some (.slice (some ⟨vb, vo, none⟩) n vc) ∧ w'.cell? ⟨vb, vo + i', none⟩ = some (.int .i64 old) ∧ w'.cell? ⟨w.heap.size + 1, 0, none⟩ = some (valAt w' (w.heap.size + 1) 0) ∧ w'.cell? ⟨w.heap.size + 1, 1, none⟩ = some (valAt w' (w.heap.size + 1) 1) ∧ w'.cell? ⟨w.heap.size + 1, 2, none⟩ = some (valAt w' (w.heap.size + 1) 2) ∧ w'.frozen? ⟨w.heap.size + 1, 0, none⟩ = false ∧ w'.frozen? ⟨w.heap.size + 1, 1, none⟩ = false ∧ w'.frozen? ⟨w.heap.size + 1, 2, none⟩ = false)
    ((refine keepX HC ?_; first | exact HX0.out.drew | exact And.left (by assumption) | exact bx_call (by assumption) (by assumption) | exact bx_sets (by assumption) _ _ _))
    ((go_at_call 56; (refine (HCP.out _ (And.left (by assumption))).mono ?_); rintro e w4 ⟨y0, p0, y1, p1, y2, p2, rfl, o5, b5⟩; have g4 : BX (w.heap.size + 1) W w4 := bx_call (by assumption) b5))
  rename_i hheld
  clear hheld
  obtain ⟨z0, z1, z2, hx4⟩ := g4.has
  have e0 : w4.cell? ⟨w.heap.size + 1, 0, none⟩ = some z0 := by rw [cell_of_block hx4]; rfl
  have e1 : w4.cell? ⟨w.heap.size + 1, 1, none⟩ = some z1 := by rw [cell_of_block hx4]; rfl
  have e2 : w4.cell? ⟨w.heap.size + 1, 2, none⟩ = some z2 := by rw [cell_of_block hx4]; rfl
  have HO5 := Lib.hid o5
  have HB5 := Lib.hid b5
  clear o5 b5 g4 hx4
  go_wp2
  refine bodyPost_ret (v := .tuple #[.agg #[.slice y0 n p0, .slice y1 n p1, .slice y2 n p2], .int .i64 old, .int .i64 0]) (by simp [results, Tryd.f71, go_sem, e0, e1, e2]) rfl ?_
  have hWs : W.drew.heap.size = W.heap.size := rfl
  have hk := (((HKW.out.trans ((Below.refl w.heap.size W).drew)).trans (HB5.out.mono (by have := HKW.out.size; omega))).setCell (p := ⟨w.heap.size + 1, 0, none⟩) (by dsimp only; omega) (.slice y0 n p0)).setCell (p := ⟨w.heap.size + 1, 1, none⟩) (by dsimp only; omega) (.slice y1 n p1) |>.setCell (p := ⟨w.heap.size + 1, 2, none⟩) (by dsimp only; omega) (.slice y2 n p2)
  refine ⟨_, rfl, ?_, hk⟩
  have o6 := ((HO5.out.low (k := w.heap.size + 1) (j := 0) (by omega) (.slice y0 n p0)).low (k := w.heap.size + 1) (j := 1) (by omega) (.slice y1 n p1)).low (k := w.heap.size + 1) (j := 2) (by omega) (.slice y2 n p2)
  obtain rfl := HN.out
  have hlt := HL.out
  refine OA.roa (by simp) (o6.congr (fun j hj => ?_) (fun j hj => ?_) (fun j hj => ?_))
  · unfold zI; rw [gF_set hlt]; by_cases e : j = i' <;> simp [e, gF]
  · unfold zB; rw [aF_set hlt, HAA.out]
  · rw [vF_set hlt]
    by_cases e : j = i'
    · rw [if_pos e]; unfold cV; rw [HAA.out, if_pos e]; rfl
    · rw [if_neg e, ← cV_vF HZ.out hj]
      unfold cV
      rw [HAA.out, if_neg e, HVV.out, if_pos hj]
end
end Go.Proofs.YtpaecmpiokkdnaaDoor
