/- Package bits: the runs handed to a loop: the iterator's contract; runs. -/
import Derived.Test.YtikdgnfcckenmaaDoorBitsR
namespace Go.Proofs.YtikdgnfcckenmaaDoor
open Go.RowKit Go.Sort Go.Shelf
attribute [local go_sem] cell_grow frozen_grow size_grow

theorem size_redrawn (W : World) (d : Nat) : (redrawn W d).heap.size = W.heap.size := rfl

/-- the iterator of runs, by its contract -/
theorem runs_stops (n₀ d Bp Bq Bb n : Nat) (on : Bool) (a : Option Addr) (len cap : Nat) (ws : List Nat) (hn : n ≤ 4096) (hlen : len = (n + 63) / 64) (hw : ∀ x ∈ ws, x < 18446744073709551616) (Kp : World → World → Prop) (hK : ∀ A C, RunSrc n₀ A Bp Bq Bb n on a len cap ws → Kp A C → RunSrc n₀ C Bp Bq Bb n on a len cap ws) (w : World) (hS : RunSrc n₀ w Bp Bq Bb n on a len cap ws) (h0 : n₀ ≤ w.heap.size) :
    SeqStopsK Fence.wide d Tryd.prog 75 #[.pointer (some ⟨Bp, 0, none⟩), .pointer (some ⟨Bq, 0, none⟩)] encRun Kp (fun ys : List Rn => ys.map (·.1) = runsL (look ws on) n) (fun pre : List Rn => pre.map (·.1) <+: runsL (look ws on) n) (n + 1) w :=
  fun l J Jx W hW hJ _ hY h1 => runs1_in n₀ l d Bp Bq Bb n on a len cap ws hn hlen hw Kp hK J Jx _ hJ hY W (hS.below (hW.mono h0)) h1

theorem runs_ok (p : Option Addr) (on : Bool) (w : World) :
    Calls Tryd.prog 50 #[.pointer p, .bool on] w fun e w' => ∃ Bp Bq, e = .returned (.func (.func 75) #[] #[.pointer (some ⟨Bp, 0, none⟩), .pointer (some ⟨Bq, 0, none⟩)]) ∧
      (w.heap.size ≤ Bp ∧ Bp < w'.heap.size) ∧ (w.heap.size ≤ Bq ∧ Bq < w'.heap.size) ∧ w'.cell? ⟨Bp, 0, none⟩ = some (.pointer p) ∧ w'.cell? ⟨Bq, 0, none⟩ = some (.bool on) ∧ Below w.heap.size w w' := by
  go_enter Tryd.func50, Tryd.ntmps50
  go_wp2
  go_ret
  exact ⟨w.heap.size, w.heap.size + 1, by simp, ⟨by simp, by simp; omega⟩, ⟨by simp, by simp⟩, by simp [go_sem], by simp [go_sem], ((Below.refl _ w).alloc (Nat.le_refl _) _).alloc (by simp) _⟩
end Go.Proofs.YtikdgnfcckenmaaDoor
