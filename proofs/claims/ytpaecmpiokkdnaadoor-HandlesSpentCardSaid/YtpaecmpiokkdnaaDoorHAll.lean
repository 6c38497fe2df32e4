/- Handles of type int: All, the iterator, for a loop that keeps the slots that are still to come. -/
import Derived.Test.YtpaecmpiokkdnaaDoorHTabInt
import Derived.Test.YtpaecmpiokkdnaaDoorIter
import Derived.Shelf.Abstract
import Derived.Shelf.RegionOpen
import Derived.OwnWalkIn
import Derived.TacticsInMore
import Derived.LoopNIn
import Derived.LoopIn
namespace Go.Proofs.YtpaecmpiokkdnaaDoor
open Go.RowKit Go.Sort Go.Shelf
attribute [local go_sem] cell_grow frozen_grow size_grow Oper.semAt_some

theorem wide_any' (d : Nat) : Fence.wide.depth.isSome = true → 1 ≤ d := fun h => by simp [Fence.wide] at h
/-- the handle of a slot -/
def hndI (st : List Slt) (i : Nat) : Int := ((st.getD i (0, false, undef)).1 : Int) * 65536 + i
/-- the slots below k that are alive -/
def alvL (st : List Slt) (k : Nat) : List Nat := (List.range k).filter fun j => (st.getD j (0, false, undef)).2.1
theorem alvL_lt {st : List Slt} {k j : Nat} (h : j ∈ alvL st k) : j < k := List.mem_range.1 (List.mem_filter.1 h).1
theorem alvL_succ (st : List Slt) (k : Nat) : alvL st (k + 1) = alvL st k ++ (if (st.getD k (0, false, undef)).2.1 then [k] else []) := by
  unfold alvL
  rw [List.range_succ, List.filter_append]
  congr 1
  simp only [List.filter_cons, List.filter_nil]
theorem alvL_yes {st : List Slt} {k : Nat} (h : (st.getD k (0, false, undef)).2.1 = true) : alvL st (k + 1) = alvL st k ++ [k] := by rw [alvL_succ, if_pos h]
theorem alvL_no {st : List Slt} {k : Nat} (h : (st.getD k (0, false, undef)).2.1 = false) : alvL st (k + 1) = alvL st k := by rw [alvL_succ, if_neg (by rw [h]; simp), List.append_nil]
abbrev encAll (st : List Slt) (i : Nat) : Array Value := #[.int .i64 (hndI st i), (st.getD i (0, false, undef)).2.2]
/-- what is handed over -/
def GAll (st : List Slt) (pre : List Nat) (i : Nat) : Prop := pre = alvL st i ∧ i < st.length ∧ (st.getD i (0, false, undef)).2.1 = true
def SAll (st : List Slt) (xs : List Nat) : Prop := xs = alvL st st.length

theorem all_ok (p : Option Addr) (w : World) : Calls Tryd.prog 22 #[.pointer p] w fun e w' => e = .returned (.func (.func 57) #[] #[.pointer (some ⟨w.heap.size, 0, none⟩)]) ∧ w.alloc (.cells #[.pointer p] 24) = w' := by
  go_enter Tryd.func22, Tryd.ntmps22
  go_wp2
  go_ret
  exact ⟨rfl, rfl⟩

/-- what the loop keeps for the iterator -/
def KeepT (B p q Bt : Nat) (st : List Slt) (pre : List Nat) (W : World) : Prop :=
  ∃ st', Int.TT W B p q st' ∧ st'.length = st.length ∧ (∀ j, j ∉ pre → st'.getD j (0, false, undef) = st.getD j (0, false, undef)) ∧ W.cell? ⟨Bt, 0, none⟩ = some (.pointer (some ⟨p, 0, none⟩))
theorem yform {R S : World → Prop} {e : Ending} {W : World} (h : (e = .returned (.bool true) ∧ R W) ∨ (e = .returned (.bool false) ∧ S W)) : ∃ b, e = .returned (.bool b) ∧ Hid ((b = true → R W) ∧ (b = false → S W)) := by
  rcases h with ⟨h1, h2⟩ | ⟨h1, h2⟩
  · exact ⟨true, h1, Lib.hid ⟨(fun _ => h2), (fun h => by cases h)⟩⟩
  · exact ⟨false, h1, Lib.hid ⟨(fun h => by cases h), (fun _ => h2)⟩⟩

set_option maxRecDepth 100000 in
set_option maxHeartbeats 3200000 in
theorem all_seq (d B p q Bt : Nat) (st : List Slt) (I : List Nat → World → Prop) (hI : ∀ pre W, I pre W → KeepT B p q Bt st pre W) (hg : ∀ j, j < st.length → (st.getD j (0, false, undef)).1 ≤ 65535) (hv : ∀ j, j < st.length → ∃ z : Int, (st.getD j (0, false, undef)).2.2 = .int .i64 z) (w : World) :
    SeqI Fence.wide d Tryd.prog 57 #[.pointer (some ⟨Bt, 0, none⟩)] (encAll st) I (GAll st) (SAll st) w := by
  intro l J Jx W _ hJ _ hJI hY h0
  obtain ⟨st0, ht0, hl0, _, hc0⟩ := hI _ _ (hJI _ _ h0)
  obtain ⟨n, hn⟩ : ∃ n, st.length = n := ⟨_, rfl⟩
  have n2 := ht0.n2
  have c9 := Tb.c0 ht0
  have HM := Lib.hid (Int.made_ok W ht0)
  rw [hl0, hn] at c9 n2
  have HN := Lib.hid hn
  clear ht0 hn hl0
  refine callsIn_of_wp Tryd.func57 rfl trivial ?_ rfl
  simp only [Tryd.ntmps57, List.size_toArray, List.length_cons, List.length_nil, Nat.reduceAdd, Nat.reduceSub, Array.replicate_succ, Array.replicate_zero, List.push_toArray, List.append_toArray, List.nil_append, List.cons_append]
  gi_wp2_with (refine ⟨trivial, wide_any' _, (callsIn_wide.2 HM.out).mono ?_⟩; rintro e w1 ⟨rfl, rfl⟩)
  gi_loopw [13] (fun i wr => ∃ k : Nat, i = .int .i64 k ∧ k ≤ n ∧ Hid (J (alvL st k) wr)) (fun i _ => n - (intOf i).toNat)
  case atStart => exact ⟨0, rfl, Nat.zero_le _, Lib.hid h0⟩
  case round =>
    clear c9 hc0
    obtain ⟨k, rfl, hk, HJ⟩ := hrel
    by_cases hlt : k < n
    · obtain ⟨st1, ht1, hl1, hs1, c1⟩ := hI _ _ (hJI _ _ HJ.out)
      have hlt1 : k < st1.length := by have := HN.out; omega
      have hk1 := hs1 k (fun h => by have := alvL_lt h; omega)
      have hhd := Int.handle_ok k _ wr.drew ⟨ht1.hp, ht1.hq, ht1.ne, ht1.n1, ht1.n2, ht1.tbl, ht1.slots, ht1.rb⟩ hlt1 rfl (by rw [hk1]; exact hg k (by have := HN.out; omega))
      have c0 := Tb.c0 ht1
      have s0 := Tb.s0 ht1 hlt1
      have s1 := Tb.s1 ht1 hlt1
      have s2 := Tb.s2 ht1 hlt1
      rw [hk1] at s0 s1 s2 hhd
      rw [hl1, HN.out] at c0
      obtain ⟨z, hz⟩ := hv k (by have := HN.out; omega)
      obtain ⟨⟨g, al, v⟩, hS⟩ : ∃ S, st.getD k (0, false, undef) = S := ⟨_, rfl⟩
      rw [hS] at s0 s1 s2 hz hhd
      dsimp only at s0 s1 s2 hz hhd
      subst hz
      have hlb : decide (k < n) = true := by simpa using hlt
      have hli : (k : Int) < (n : Int) := by omega
      have hk0 : (0 : Int) ≤ (k : Int) := by omega
      have HS := Lib.hid hS
      have HH := Lib.hid hhd
      clear ht1 hl1 hs1 hk1 hS hhd
      cases al with
      | true =>
        have hJd : J (alvL st k) wr.drew := hJ _ _ _ none HJ.out ⟨rfl, rfl, rfl, Nat.le_refl _, fun _ _ _ => rfl⟩ (fun r e => by cases e)
        obtain ⟨fn, tmps, assign, body, hy, hR⟩ := hY (alvL st k) k wr.drew hJd ⟨rfl, by rw [HN.out]; exact hlt, by rw [HS.out]⟩
        have hxe : encAll st k = #[.int .i64 ((g : Int) * 65536 + k), .int .i64 z] := by unfold encAll hndI; rw [HS.out]
        rw [hxe] at hy
        clear hxe hJd
        gi_wp2
        gi_region_with (first
          | (refine ⟨trivial, wide_any' _, (callsIn_wide.2 HH.out).mono ?_⟩; rintro e w1 ⟨rfl, rfl⟩)
          | (refine ⟨wide_any' _, hR.mono ?_⟩; intro e W3 hW3; obtain ⟨b, rfl, HBB⟩ := yform hW3; clear hW3))
        all_goals
          cases b with
          | true =>
            have HX := Lib.hid (HBB.out.1 rfl)
            clear HBB
            gi_wp2
            go_roundw
            case rel => exact ⟨k + 1, by go_num, by omega, Lib.hid (by rw [alvL_yes (by rw [HS.out])]; exact HX.out)⟩
            case measure => simp [intOf]; omega
          | false =>
            have HX := Lib.hid (HBB.out.2 rfl)
            clear HBB
            gi_wp2
            refine bodyPost_ret (results_none rfl _ _ _) rfl ?_
            exact ⟨⟨_, rfl⟩, .inr ⟨_, HX.out⟩⟩
      | false =>
        gi_wp2
        refine wpIn_region_quiet_lit rfl (by kernel_rfl) (by kernel_rfl) ?_
        repeat (refine wpQuietIn_step (by first | quiet_asked_in | (intros; trivial) | (unfold Oper.askedIn; intros; trivial)) (fun K hK => ?_); go_simp; refine hK _ ?_; clear hK K)
        refine wpQuietIn_nil ?_
        intro _ hw'
        obtain ⟨nq, hw''⟩ := hw'
        subst hw''
        gi_wp2
        go_roundw
        case rel => exact ⟨k + 1, by go_num, by omega, Lib.hid (by
          rw [alvL_no (by rw [HS.out])]
          exact hJ _ _ _ none HJ.out ⟨rfl, rfl, rfl, Nat.le_refl _, fun _ _ _ => rfl⟩ (fun r e => (by cases e)))⟩
        case measure => simp [intOf]; omega
    · have hlb : decide (k < n) = false := by simpa using hlt
      obtain rfl : k = n := by omega
      gi_wp2
      go_end0
      exact ⟨⟨_, rfl⟩, .inl ⟨_, by unfold SAll; rw [HN.out], HJ.out⟩⟩
end Go.Proofs.YtpaecmpiokkdnaaDoor
