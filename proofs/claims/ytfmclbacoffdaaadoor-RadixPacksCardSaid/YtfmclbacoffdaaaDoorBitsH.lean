/- slices.Clone of words; package bits: New, Set. -/
import Derived.Test.YtfmclbacoffdaaaDoorBitsG
namespace Go.Proofs.YtfmclbacoffdaaaDoor
open Go.RowKit Go.Sort Go.Joins
attribute [local go_sem] cell_grow frozen_grow size_grow

theorem info_u64 : (Tryd.prog.info? 24).map (fun i => (i.zero, i.size, i.bytes)) = some (some (.int .u64 0), 1, 8) := by kernel_rfl

theorem SlK.news {w : World} {ad : Addr} {len : Nat} {ws : List Nat} (h : SlK .u64 w (some ad) len ws) : ∀ j u, (u64s ws)[j]? = some u → w.cell? (ad.add j) = some u := by
  intro j u hu
  have hj : j < ws.length := by
    have := (List.getElem?_eq_some_iff.1 hu).1
    simpa [u64s] using this
  rcases h.cells with h0 | ⟨b, off, ha, hc⟩
  · rw [h.length, h0] at hj; omega
  · obtain rfl := Option.some.inj ha
    rw [Addr.add_lit, hc j (by rw [← h.length]; exact hj), ← hu, u64s_get _ _ hj]
theorem u64s_one (ws : List Nat) : ∀ u ∈ u64s ws, u.oneCell' = true := by
  intro u hu
  obtain ⟨_, _, rfl⟩ := List.mem_map.1 hu
  rfl

set_option maxHeartbeats 800000 in
theorem clone_ok (a : Option Addr) (len cap : Nat) (ws : List Nat) (w : World) (hs : SlK .u64 w a len ws) (hlen : len ≤ 100000) :
    Calls Tryd.prog 49 #[.slice a len cap] w fun e w' => ∃ v, e = .returned v ∧ w'.ownsRow w.heap.size 24 1 v len (u64s ws) ∧ Below w.heap.size w w' := by
  obtain ⟨i0, hi, hz0, hz1, hz2⟩ := info_parts info_u64
  cases a with
  | none =>
    have h0 : len = 0 := by rcases hs.cells with h | ⟨_, _, h, _⟩; exact h; cases h
    subst h0
    have hq := fun (w : World) => Lib.run_eql_slice_nil (P := Tryd.prog) w 58 24 none 0 cap 0 0 Tryd.underlying58
    go_enter Tryd.func49, Tryd.ntmps49
    go_wp2
    go_ret
    have hws : ws = [] := List.eq_nil_of_length_eq_zero hs.length
    subst hws
    exact ⟨_, rfl, World.ownsRow_nil _ _ _ _, Below.refl _ _⟩
  | some ad =>
    have hq := fun (w : World) => Lib.run_eql_slice_nil (P := Tryd.prog) w 58 24 (some ad) len cap 0 0 Tryd.underlying58
    go_enter Tryd.func49, Tryd.ntmps49
    go_wp2_with (at_builtin; refine wpList_append_own _ rfl (.tmp 5) (.tmp 6) 58 rfl w.heap.size 24 i0 (.int .u64 0) 1 8 Tryd.underlying58 hi hz0 hz1 hz2 rfl (by decide) _ _ _ rfl (World.ownsRow_lit w #[] 0 (Nat.le_refl _) (by decide) rfl) ad len cap (u64s ws) rfl ?c1 (hs.alloc _).news (u64s_one ws) ?c2 ?c3 ?c4 ?_)
    case c1 => rw [u64s_length, hs.length, Nat.mul_one]
    case c2 => unfold maxLen; omega
    case c3 => omega
    case c4 => simp
    intro v' w1 hown hg _
    go_wp2
    go_ret
    exact ⟨v', rfl, by simpa using hown, ((below_box0 _ _).grown hg (by simp) (by intro k hk; simp [Value.ownBlock] at hk; omega))⟩
end Go.Proofs.YtfmclbacoffdaaaDoor
