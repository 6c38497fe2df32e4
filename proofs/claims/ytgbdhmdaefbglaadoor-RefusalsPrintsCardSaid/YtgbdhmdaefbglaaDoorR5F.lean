/- Refusals: the calls of a rule, one by one; the marks of a plan. -/
import Derived.Test.YtgbdhmdaefbglaaDoorR5E
import Derived.Test.YtgbdhmdaefbglaaDoorBlRow
import Derived.Test.YtgbdhmdaefbglaaDoorMarks
import Derived.Shelf.RegionOpen
import Derived.OwnWalkIn
import Derived.TacticsInMore
import Derived.LoopNIn
import Derived.LoopIn
namespace Go.Proofs.YtgbdhmdaefbglaaDoor
open Go.RowKit Go.Sort Go.Joins Go.Shelf
attribute [local go_sem] cell_grow frozen_grow size_grow Oper.semAt_some

theorem wide_any' (d : Nat) : Fence.wide.depth.isSome = true → 1 ≤ d := fun h => by simp [Fence.wide] at h
theorem calls_ok (x : Rl) (L : Int) (w : World) : Calls Tryd.prog 64 #[rV x, .int .i64 L] w fun e w' => e = .returned (.func (.func 81) #[] #[.pointer (some ⟨w.heap.size, 0, none⟩), .pointer (some ⟨w.heap.size + 1, 0, none⟩)]) ∧
    (w.alloc (.cells #[.int .i64 x.1, .int .i64 x.2.1, .int .i64 x.2.2.1, .int .i64 x.2.2.2] 45)).alloc (.cells #[.int .i64 L] 3) = w' := by
  go_enter Tryd.func64, Tryd.ntmps64
  go_wp2
  go_ret
  exact ⟨rfl, rfl⟩
/-- the first k calls of a rule -/
def calL (x : Rl) (k : Nat) : List Int := (List.range k).map fun (j : Nat) => x.2.1 + (j : Int) * x.2.2.1
theorem calL_succ (x : Rl) (k : Nat) : calL x (k + 1) = calL x k ++ [x.2.1 + (k : Int) * x.2.2.1] := by unfold calL; rw [List.range_succ, List.map_append]; rfl
theorem calL_length (x : Rl) (k : Nat) : (calL x k).length = k := by simp [calL]
/-- the first k calls were all to be made -/
def CalOk (x : Rl) (L : Int) (k : Nat) : Prop := ∀ j : Nat, j < k → x.2.1 + (j : Int) * x.2.2.1 ≤ L ∧ (x.2.2.2 = 0 ∨ (j : Int) < x.2.2.2)
def CalEnd (x : Rl) (L : Int) (k : Nat) : Prop := L < x.2.1 + (k : Int) * x.2.2.1 ∨ (x.2.2.2 ≠ 0 ∧ x.2.2.2 ≤ (k : Int))
abbrev encC (m : Int) : Array Value := #[.int .i64 m]
def GCal (x : Rl) (L : Int) (pre : List Int) (m : Int) : Prop := ∃ k, pre = calL x k ∧ m = x.2.1 + (k : Int) * x.2.2.1 ∧ CalOk x L (k + 1)
def SCal (x : Rl) (L : Int) (xs : List Int) : Prop := ∃ k, xs = calL x k ∧ CalOk x L k ∧ CalEnd x L k
/-- what the loop keeps for the iterator -/
def KeepC (x : Rl) (L : Int) (B1 B2 : Nat) (W : World) : Prop :=
  W.cell? ⟨B1, 1, none⟩ = some (.int .i64 x.2.1) ∧ W.cell? ⟨B1, 2, none⟩ = some (.int .i64 x.2.2.1) ∧ W.cell? ⟨B1, 3, none⟩ = some (.int .i64 x.2.2.2) ∧ W.cell? ⟨B2, 0, none⟩ = some (.int .i64 L)
theorem yform {R S : World → Prop} {e : Ending} {W : World} (h : (e = .returned (.bool true) ∧ R W) ∨ (e = .returned (.bool false) ∧ S W)) : ∃ b, e = .returned (.bool b) ∧ Hid ((b = true → R W) ∧ (b = false → S W)) := by
  rcases h with ⟨h1, h2⟩ | ⟨h1, h2⟩
  · exact ⟨true, h1, Lib.hid ⟨(fun _ => h2), (fun h => by cases h)⟩⟩
  · exact ⟨false, h1, Lib.hid ⟨(fun h => by cases h), (fun _ => h2)⟩⟩

set_option maxRecDepth 100000 in
set_option maxHeartbeats 3200000 in
theorem calls_seq (d : Nat) (x : Rl) (hx : RlOk x) (L : Int) (hL0 : 0 ≤ L) (hL1 : L ≤ 2000000) (B1 B2 : Nat) (I : List Int → World → Prop) (hI : ∀ pre W, I pre W → KeepC x L B1 B2 W) (w : World) :
    SeqI Fence.wide d Tryd.prog 81 #[.pointer (some ⟨B1, 0, none⟩), .pointer (some ⟨B2, 0, none⟩)] encC I (GCal x L) (SCal x L) w := by
  intro l J Jx W _ hJ _ hJI hY h0
  have hx0 := hx.f0
  have hx1 := hx.f1
  have hx2 := hx.e0
  have hx3 := hx.e1
  have hx4 := hx.t0
  have hx5 := hx.t1
  have HX := Lib.hid hx
  clear hx
  obtain ⟨K, F, E, T⟩ := x
  dsimp only at hx0 hx1 hx2 hx3 hx4 hx5
  obtain ⟨z1, z2, z3, z4⟩ := hI _ _ (hJI _ _ h0)
  dsimp only at z1 z2 z3
  refine callsIn_of_wp Tryd.func81 rfl trivial ?_ rfl
  simp only [Tryd.ntmps81, List.size_toArray, List.length_cons, List.length_nil, Nat.reduceAdd, Nat.reduceSub, Array.replicate_succ, Array.replicate_zero, List.push_toArray, List.append_toArray, List.nil_append, List.cons_append]
  gi_wp2
  gi_loopw [4, 5] (fun s i wr => ∃ k : Nat, ∃ y : Int, i = .int .i64 k ∧ s = .int .i64 y ∧ Hid (y = F + (k : Int) * E) ∧ (k : Int) ≤ L + 1 ∧ 1 ≤ y ∧ y ≤ L + 10012 ∧ Hid (CalOk (K, F, E, T) L k) ∧ Hid (J (calL (K, F, E, T) k) wr)) (fun _ i _ => (L + 2 - intOf i).toNat)
  case atStart => exact ⟨0, F, rfl, rfl, Lib.hid (by simp), by omega, by omega, by omega, Lib.hid (fun j hj => by omega), Lib.hid (by exact h0)⟩
  case round =>
    clear z1 z2 z3 z4 h0
    obtain ⟨k, y, rfl, rfl, HY, hk, hy0, hy1, HO, HJ⟩ := hrel
    obtain ⟨z1, z2, z3, z4⟩ := hI _ _ (hJI _ _ HJ.out)
    dsimp only at z1 z2 z3
    by_cases hgo : y ≤ L ∧ (T = 0 ∨ (k : Int) < T)
    · obtain ⟨hyL, hT⟩ := hgo
      have d1 : decide (y ≤ L) = true := by simpa using hyL
      have HOK : Hid (CalOk (K, F, E, T) L (k + 1)) := Lib.hid (fun j hj => by
        by_cases ej : j = k
        · subst ej; dsimp only; rw [← HY.out]; exact ⟨hyL, hT⟩
        · exact HO.out j (by omega))
      have HBd := Lib.hid (cal_bound HX.out HOK.out hL0)
      have hb1 : ((k + 1 : Nat) : Int) ≤ L + 1 := HBd.out.2.2
      have hst : F + ((k + 1 : Nat) : Int) * E = y + E := by rw [step_mul, HY.out]
      have hb2 := HBd.out.1
      have hb3 := HBd.out.2.1
      dsimp only at hb2 hb3
      rw [hst] at hb2 hb3
      have HST := Lib.hid hst
      clear hst
      obtain ⟨fn, tmps, assign, body, hy, hR⟩ := hY (calL (K, F, E, T) k) y wr HJ.out ⟨k, rfl, by rw [HY.out], HOK.out⟩
      have hmore : (T == 0) = true ∨ ((T == 0) = false ∧ decide ((k : Int) < T) = true) := by
        by_cases hT0 : T = 0
        · left; simpa using hT0
        · right; refine ⟨by simpa using hT0, ?_⟩; simp; omega
      clear hT
      rcases hmore with d2 | ⟨d2, d3⟩
      all_goals
        gi_wp2_with fail
        refine ⟨wide_any' _, hR.mono ?_⟩
        intro e W3 hW3
        obtain ⟨b, rfl, HBB⟩ := yform hW3
        clear hW3 hR
        cases b with
        | true =>
          have HX2 := Lib.hid (HBB.out.1 rfl)
          clear HBB z1 z2 z3 z4
          obtain ⟨z1, z2, z3, z4⟩ := hI _ _ (hJI _ _ HX2.out)
          dsimp only at z1 z2 z3
          gi_wp2
          go_roundw
          case rel => exact ⟨k + 1, y + E, by go_num, rfl, Lib.hid HST.out.symm, hb1, hb2, hb3, HOK, Lib.hid (by rw [calL_succ]; dsimp only; rw [← HY.out]; exact HX2.out)⟩
          case measure => simp [intOf]; omega
        | false =>
          have HX2 := Lib.hid (HBB.out.2 rfl)
          clear HBB z1 z2 z3 z4
          gi_wp2
          refine bodyPost_ret (results_none rfl _ _ _) rfl ?_
          exact ⟨⟨_, rfl⟩, .inr ⟨_, HX2.out⟩⟩
    · have HE : Hid (CalEnd (K, F, E, T) L k) := Lib.hid (by
        unfold CalEnd
        dsimp only
        rw [← HY.out]
        omega)
      have hno : decide (y ≤ L) = false ∨ (decide (y ≤ L) = true ∧ (T == 0) = false ∧ decide ((k : Int) < T) = false) := by
        by_cases h1 : y ≤ L
        · right; refine ⟨by simpa using h1, ?_, ?_⟩
          · simp; omega
          · simp; omega
        · left; simpa using h1
      clear hgo
      rcases hno with d1 | ⟨d1, d2, d3⟩
      all_goals
        gi_wp2
        go_end0
        exact ⟨⟨_, rfl⟩, .inl ⟨_, ⟨k, rfl, HO.out, HE.out⟩, HJ.out⟩⟩
end Go.Proofs.YtgbdhmdaefbglaaDoor
