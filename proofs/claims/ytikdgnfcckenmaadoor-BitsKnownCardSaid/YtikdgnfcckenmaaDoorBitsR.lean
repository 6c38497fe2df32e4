/- Package bits: the iterator of runs. -/
import Derived.RangeFuncNested
import Derived.RangeFuncBound
import Derived.RangeFuncCalls
import Derived.RangeFuncLeaves
import Derived.Shelf.Abstract
import Derived.Shelf.RegionOpen
import Derived.OwnWalkIn
import Derived.TacticsInMore
import Derived.LoopNIn
import Derived.LoopIn
import Derived.Test.YtikdgnfcckenmaaDoorBitsF
import Derived.Test.YtikdgnfcckenmaaDoorPlainR
namespace Go.Proofs.YtikdgnfcckenmaaDoor
open Go.RowKit Go.Sort Go.Shelf
attribute [local go_sem] cell_grow frozen_grow size_grow Oper.semAt_some

/-- what the iterator reads: all of it lies below block n₀ -/
structure RunSrc (n₀ : Nat) (W : World) (Bp Bq Bb n : Nat) (on : Bool) (a : Option Addr) (len cap : Nat) (ws : List Nat) : Prop where
  p : W.cell? ⟨Bp, 0, none⟩ = some (.pointer (some ⟨Bb, 0, none⟩))
  hp : Bp < n₀
  q : W.cell? ⟨Bq, 0, none⟩ = some (.bool on)
  hq : Bq < n₀
  b : AtBits W Bb n a len cap
  hb : Bb < n₀
  s : SlK .u64 W a len ws
  hs : len ≠ 0 → ∀ A, a = some A → A.block < n₀
  t : Tab W
  ht : 0 < n₀
theorem SlK.lt {k : IntKind} {w : World} {a : Option Addr} {len : Nat} {ws : List Nat} (h : SlK k w a len ws) (hl : len ≠ 0) : ∀ A, a = some A → A.block < w.heap.size := by
  rintro A rfl
  obtain ⟨b, off, ha, hc⟩ := h.cells.resolve_left hl
  cases ha
  exact World.block_lt_of_cell? _ _ (hc 0 (by omega))
theorem RunSrc.below {n₀ : Nat} {W W' : World} {Bp Bq Bb n : Nat} {on : Bool} {a : Option Addr} {len cap : Nat} {ws : List Nat} (h : RunSrc n₀ W Bp Bq Bb n on a len cap ws) (k : Below n₀ W W') : RunSrc n₀ W' Bp Bq Bb n on a len cap ws := by
  refine ⟨(k.cell (p := ⟨Bp, 0, none⟩) h.hp).trans h.p, h.hp, (k.cell (p := ⟨Bq, 0, none⟩) h.hq).trans h.q, h.hq, ⟨(k.cell (p := ⟨Bb, 0, none⟩) h.hb).trans h.b.n, (k.cell (p := ⟨Bb, 1, none⟩) h.hb).trans h.b.s⟩, h.hb, ⟨h.s.length, ?_⟩, h.hs, fun i hi => (k.cell (p := ⟨0, i, none⟩) h.ht).trans (h.t i hi), h.ht⟩
  by_cases hl0 : len = 0
  · exact .inl hl0
  rcases h.s.cells with h0 | ⟨b, off, ha, hc⟩
  · exact .inl h0
  · exact .inr ⟨b, off, ha, fun j hj => (k.cell (p := ⟨b, off + j, none⟩) (show b < n₀ from h.hs hl0 ⟨b, off, none⟩ ha)).trans (hc j hj)⟩
theorem RunSrc.drewN {n₀ : Nat} {W : World} {Bp Bq Bb n : Nat} {on : Bool} {a : Option Addr} {len cap : Nat} {ws : List Nat} (h : RunSrc n₀ W Bp Bq Bb n on a len cap ws) (m : Nat) : RunSrc n₀ (W.drewN m) Bp Bq Bb n on a len cap ws :=
  h.below ⟨rfl, rfl, rfl, Nat.le_refl _, fun _ _ => rfl⟩
/-- a run that the iterator may hand over -/
abbrev Rn := {x : Nat × Nat // x.1 < x.2 ∧ x.2 ≤ 4096}
abbrev encRun (x : Rn) : Array Value := #[.agg #[.int .i64 (x.1.1 : Int), .int .i64 (x.1.2 : Int)]]
theorem gb_draw (W : World) (m : Nat) : W.grownBy (W.drewN m) none := ⟨rfl, rfl, rfl, Nat.le_refl _, fun _ _ _ => rfl⟩

theorem wide_any (d : Nat) : Fence.wide.depth.isSome = true → 1 ≤ d := fun h => by simp [Fence.wide] at h
set_option maxHeartbeats 1600000 in
theorem runs1_in (n₀ : Nat) (l d Bp Bq Bb n : Nat) (on : Bool) (a : Option Addr) (len cap : Nat) (ws : List Nat) (hn : n ≤ 4096) (hlen : len = (n + 63) / 64) (hw : ∀ x ∈ ws, x < 18446744073709551616) (Kp : World → World → Prop) (hK : ∀ A C, RunSrc n₀ A Bp Bq Bb n on a len cap ws → Kp A C → RunSrc n₀ C Bp Bq Bb n on a len cap ws) (J Jx : List Rn → World → Prop) (B : Nat) (hJ : AbidesFrom B J)
    (hY : ∀ pre x W, J pre W → pre.length < n + 1 → YieldAt Fence.wide (d - 1) Tryd.prog l (encRun x) W fun e W' =>
      (e = .returned (.bool true) ∧ J (pre ++ [x]) W' ∧ Kp W W') ∨ (e = .returned (.bool false) ∧ Jx (pre ++ [x]) W'))
    (W : World) (hS : RunSrc n₀ W Bp Bq Bb n on a len cap ws) (h0 : J [] W) :
    CallsIn Fence.wide d Tryd.prog 75 #[.func (.yield l) #[] #[], .pointer (some ⟨Bp, 0, none⟩), .pointer (some ⟨Bq, 0, none⟩)] W fun e W' => (∃ v, e = .returned v) ∧
      ((∃ ys : List Rn, ys.map (·.1) = runsL (look ws on) n ∧ J ys W') ∨ (∃ pre : List Rn, pre.map (·.1) <+: runsL (look ws on) n ∧ Jx pre W')) := by
  have HL := Lib.hid hlen
  clear hlen
  refine callsIn_of_wp Tryd.func75 rfl trivial ?_ rfl
  simp only [Tryd.ntmps75, List.size_toArray, List.length_cons, List.length_nil, Nat.reduceAdd, Nat.reduceSub, Array.replicate_succ, Array.replicate_zero, List.push_toArray, List.append_toArray, List.nil_append, List.cons_append]
  gi_wp2
  gi_loopw [4] (fun i wr => ∃ (pre : List Rn) (k : Nat), i = .int .i64 k ∧ k ≤ n ∧ Hid (runsL (look ws on) n = pre.map (·.1) ++ runsG (look ws on) n (n + 1) k) ∧ Hid (RunSrc n₀ wr Bp Bq Bb n on a len cap ws) ∧ Hid (J pre wr))
    (fun i _ => n - (intOf i).toNat)
  case atStart => exact ⟨[], 0, rfl, Nat.zero_le _, Lib.hid rfl, Lib.hid hS, Lib.hid h0⟩
  case round =>
    obtain ⟨pre, k, rfl, hk, HX, HS, HJ⟩ := hrel
    have c1 := HS.out.p
    have c2 := HS.out.q
    have c3 := HS.out.b.n
    have N1 := nxt_spec (p := look ws on) hk
    have HN1 := Lib.hid N1
    obtain ⟨f, hfd⟩ : ∃ f, nxt (look ws on) k n = f := ⟨_, rfl⟩
    have hfn : f ≤ n := by rw [← hfd]; exact N1.2.1
    clear N1
    by_cases hf : f < n
    · have ht : ((f : Int) == (n : Int)) = false := by simp; omega
      have ht2 : decide ((f : Int) = (n : Int)) = false := by simp; omega
      have hx0 : f < nxt (look ws (!on)) f n ∧ nxt (look ws (!on)) f n ≤ n := by
        have N1 := HN1.out
        rw [hfd] at N1
        rw [look_not]
        exact ⟨nxt_not_gt hf (N1.2.2.2 hf), (nxt_spec (p := fun i => !look ws on i) (a := f) hfn).2.1⟩
      obtain ⟨e1, he1⟩ : ∃ e1, nxt (look ws (!on)) f n = e1 := ⟨_, rfl⟩
      rw [he1] at hx0
      obtain ⟨x, hxd⟩ : ∃ x : Rn, x.1 = (f, e1) := ⟨⟨(f, e1), hx0.1, by simp; omega⟩, rfl⟩
      have hst := runsG_step (look ws on) n (n + 1) k hk (by omega) (by rw [hfd]; exact hf)
      rw [hfd, ← look_not, he1] at hst
      have HST := Lib.hid hst
      clear hst
      have hl0 : pre.length < n + 1 := by
        have h1 := congrArg List.length HX.out
        have h2 := runsL_length (look ws on) n
        rw [HST.out] at h1
        simp at h1; omega
      have hxe : encRun x = #[.agg #[.int .i64 (f : Int), .int .i64 (e1 : Int)]] := by unfold encRun; rw [hxd]
      have HXE := Lib.hid hxe
      clear hxe
      gi_wp2_with (first
        | (refine ⟨trivial, wide_any _, (callsIn_wide.2 (bnext_ok Bb n _ _ a len cap ws _ ?_ ?_ ?_ hw ?_ hn HL.out)).mono ?_⟩
           · exact (HS.out.drewN _).t
           · exact (HS.out.drewN _).b
           · exact (HS.out.drewN _).s
           · omega
           rintro e w1 ⟨rfl, m1, hw1⟩
           rw [he1]
           have HJ1 : J pre w1 := by
             rw [hw1]; exact hJ _ _ _ _ (hJ _ _ _ _ HJ.out (gb_draw _ _) (fun r e => by cases e)) (gb_draw _ _) (fun r e => by cases e)
           have HS1 : RunSrc n₀ w1 Bp Bq Bb n on a len cap ws := by (rw [hw1]; exact (HS.out.drewN _).drewN _)
           clear hw1
           obtain ⟨fn, tmps, assign, body, hy, hR⟩ := hY pre x w1 HJ1 hl0
           rw [HXE.out] at hy)
        | (refine ⟨trivial, wide_any _, (callsIn_wide.2 (bnext_ok Bb n _ _ a len cap ws _ HS.out.t HS.out.b HS.out.s hw ?_ hn HL.out)).mono ?_⟩
           · omega
           rintro e w1 ⟨rfl, m1, rfl⟩
           rw [hfd]))
      refine ⟨wide_any _, hR.mono ?_⟩
      rintro e W3 (⟨rfl, hJ3, hk3⟩ | ⟨rfl, hJx3⟩)
      · gi_wp2
        go_roundw
        case rel => exact ⟨pre ++ [x], e1, rfl, hx0.2, Lib.hid (by rw [HX.out, HST.out, List.map_append, List.append_assoc]; simp [hxd]), Lib.hid (hK _ _ HS1 hk3), Lib.hid hJ3⟩
        case measure => have := HN1.out; rw [hfd] at this; simp [intOf]; omega
      · gi_wp2
        refine bodyPost_ret (results_none rfl _ _ _) rfl ?_
        exact ⟨⟨_, rfl⟩, .inr ⟨pre ++ [x], ⟨runsG (look ws on) n (n + 1) e1, by rw [HX.out, HST.out]; simp [hxd]⟩, hJx3⟩⟩
    · have hfe : f = n := by omega
      have ht : ((f : Int) == (n : Int)) = true := by simp [hfe]
      have HFE := Lib.hid hfe
      clear hfe
      gi_wp2_with (refine ⟨trivial, wide_any _, (callsIn_wide.2 (bnext_ok Bb n _ _ a len cap ws _ HS.out.t HS.out.b HS.out.s hw ?_ hn HL.out)).mono ?_⟩; omega; rintro e w1 ⟨rfl, m1, rfl⟩; rw [hfd])
      refine bodyPost_ret (results_none rfl _ _ _) rfl ?_
      exact ⟨⟨_, rfl⟩, .inl ⟨pre, by rw [HX.out, runsG_stop (look ws on) n (n + 1) k (by rw [hfd]; exact hf)]; simp, hJ _ _ _ _ HJ.out (gb_draw _ _) (fun r e => by cases e)⟩⟩
end Go.Proofs.YtikdgnfcckenmaaDoor
