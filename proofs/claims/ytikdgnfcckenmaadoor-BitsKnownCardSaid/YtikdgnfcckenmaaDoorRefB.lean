/- The reference for bits: List, part. -/
import Derived.Test.YtikdgnfcckenmaaDoorRefA
import Derived.Test.YtikdgnfcckenmaaDoorPlainX
import Derived.Test.YtikdgnfcckenmaaDoorBitsU
import Derived.Test.YtikdgnfcckenmaaDoorBitsJ
namespace Go.Proofs.YtikdgnfcckenmaaDoor
open Go.RowKit Go.Sort Go.Joins
attribute [local go_sem] cell_grow frozen_grow size_grow

theorem info_bool : (Tryd.prog.info? 4).map (fun i => (i.zero, i.size, i.bytes)) = some (some (.bool false), 1, 1) := by kernel_rfl

set_option maxRecDepth 100000 in
set_option maxHeartbeats 1600000 in
theorem rList_ok (n : Nat) (a : Option Addr) (len cap : Nat) (ws : List Nat) (w : World) (hs : SlK .u64 w a len ws) (hw : ∀ x ∈ ws, x < 18446744073709551616) (hn : n ≤ 4096) (hlen : len = (n + 63) / 64) :
    Calls Tryd.prog 51 #[.agg #[.int .i64 n, .slice a len cap]] w fun e w' => ∃ v, e = .returned v ∧ w'.ownsRow w.heap.size 4 1 v n (bls (bat ws) n) ∧ Below w.heap.size w w' := by
  obtain ⟨i0, hi, hz0, hz1, hz2⟩ := info_parts info_bool
  have HL := Lib.hid hlen
  have HC := Lib.hid hs
  have hlu : len ≤ 64 := by omega
  clear hlen hs
  go_enter Tryd.func51, Tryd.ntmps51
  go_wp2
  go_loopw [3, 4] (fun v i wr => ∃ k : Nat, i = .int .i64 k ∧ k ≤ n ∧ wr.ownsRow (w.heap.size + 1) 4 1 v k (bls (bat ws) k) ∧ wr.cell? ⟨w.heap.size, 0, none⟩ = some (.int .i64 n) ∧ wr.cell? ⟨w.heap.size, 1, none⟩ = some (.slice a len cap) ∧ w.heap.size < wr.heap.size ∧ Hid (Below w.heap.size w wr)) (fun _ i _ => n - (intOf i).toNat)
  case atStart => exact ⟨0, rfl, Nat.zero_le _, World.ownsRow_nil _ _ _ _, by simp [go_sem], by simp [go_sem], by simp, Lib.hid (below_box0 _ _)⟩
  case round =>
    obtain ⟨k, rfl, hk, hown, c0, c1, hz, HB⟩ := hrel
    by_cases hlt : k < n
    · have hsr := HC.out.below HB.out
      obtain ⟨b, off, rfl, hc⟩ := hsr.cells.resolve_left (by have := HL.out; omega)
      have hck := hc (k / 64) (by have := HL.out; omega)
      have hbl : b < wr.heap.size := World.block_lt_of_cell? _ _ hck
      have i0' : (0 : Int) ≤ (k : Int) / 64 := by omega
      have i1 : (k : Int) / 64 < (len : Int) := by have := HL.out; omega
      have hT := bit_test ws k hw
      clear hc hsr
      go_wp2_with (at_builtin; refine wpList_append_own _ rfl (.tmp 11) (.tmp 24) 63 rfl (w.heap.size + 1) 4 i0 (.bool false) 1 1 Tryd.underlying63 hi hz0 hz1 hz2 rfl (by decide) _ _ _ rfl (hown.alloc _) ⟨wr.heap.size, 0, none⟩ 1 1 [.bool (bat ws k)] rfl rfl ?c1 ?c2 ?c3 ?c4 ?c5 ?_)
      case c1 => intro j u hu; cases j <;> simp at hu; subst hu; simp [go_sem]
      case c2 => intro u hu; simp at hu; subst hu; rfl
      case c3 => unfold maxLen; omega
      case c4 => omega
      case c5 => simp; omega
      intro v' w1 hown1 hg _
      have H0 := HB.out.size
      have hne : (some w.heap.size : Option Nat) ≠ u3.ownBlock := fun e => by have := (hown.lt _ e.symm).1; omega
      have d0 : w1.cell? ⟨w.heap.size, 0, none⟩ = some (.int .i64 n) := hg.cell (cellA c0 _) hne
      have d1 : w1.cell? ⟨w.heap.size, 1, none⟩ = some (.slice (some ⟨b, off, none⟩) len cap) := hg.cell (cellA c1 _) hne
      have dz : w.heap.size < w1.heap.size := by have := hg.size; simp at this; omega
      have hB1 := Lib.hid ((HB.out.alloc H0 (.cells #[.bool (bat ws k)] 4)).grown hg (by simp; omega) (by intro r hr; have := (hown.lt r hr).1; omega))
      rw [← bls_succ] at hown1
      clear hg hown c0 c1
      go_wp2
      go_roundw
      case rel => exact ⟨k + 1, by go_num, by omega, hown1, d0, d1, dz, hB1⟩
      case measure => simp [intOf]; omega
    · have hkn : k = n := by omega
      subst hkn
      go_wp2
      go_ret
      exact ⟨_, rfl, ownsRow_le hown (by omega), HB.out⟩

/-- the bits of a valid bitmap, or an error -/
theorem rpart_ok (N f t : Int) (a : Option Addr) (len cap : Nat) (ws : List Nat) (w : World) (hs : SlK .u64 w a len ws) (hw : ∀ x ∈ ws, x < 18446744073709551616) (hlen : len ≤ 9223372036854775807) :
    Calls Tryd.prog 62 #[.agg #[.int .i64 N, .slice a len cap], .int .i64 f, .int .i64 t] w fun e w' => e = .returned (.int .i64 (prt N ws f t)) ∧ Below w.heap.size w w' := by
  by_cases hc : chk N ws = 0
  · have HC := Lib.hid hc
    have c0 : ((0 : Int) == 0) = true := rfl
    by_cases h1 : f < 0 ∨ t < f ∨ N < t
    · have R := Lib.hid (prt_bad hc h1)
      clear hc
      by_cases g1 : f < 0
      · have d1 : decide (f < 0) = true := by simpa using g1
        clear h1
        go_enter Tryd.func62, Tryd.ntmps62
        go_wp2_with (go_at_call 21; refine (rCheck_ok N a len cap ws _ (hs.alloc _) hw hlen).mono ?_; rintro e w1 ⟨rfl, hb⟩; rw [HC.out]; obtain ⟨⟨d1, os1⟩, rfl⟩ := regrown_of_below hb; clear hb)
        go_ret
        exact ⟨ret_i64 R.out.symm, (below_box0 _ _).trans ((below_grow _ _ _).mono (by simp))⟩
      · have d1 : decide (f < 0) = false := by simpa using g1
        by_cases g2 : t < f
        · have d2 : decide (t < f) = true := by simpa using g2
          clear h1
          go_enter Tryd.func62, Tryd.ntmps62
          go_wp2_with (go_at_call 21; refine (rCheck_ok N a len cap ws _ (hs.alloc _) hw hlen).mono ?_; rintro e w1 ⟨rfl, hb⟩; rw [HC.out]; obtain ⟨⟨d1, os1⟩, rfl⟩ := regrown_of_below hb; clear hb)
          go_ret
          exact ⟨ret_i64 R.out.symm, (below_box0 _ _).trans ((below_grow _ _ _).mono (by simp))⟩
        · have d2 : decide (t < f) = false := by simpa using g2
          have d3 : decide (N < t) = true := by simp; omega
          clear h1
          go_enter Tryd.func62, Tryd.ntmps62
          go_wp2_with (go_at_call 21; refine (rCheck_ok N a len cap ws _ (hs.alloc _) hw hlen).mono ?_; rintro e w1 ⟨rfl, hb⟩; rw [HC.out]; obtain ⟨⟨d1, os1⟩, rfl⟩ := regrown_of_below hb; clear hb)
          go_ret
          exact ⟨ret_i64 R.out.symm, (below_box0 _ _).trans ((below_grow _ _ _).mono (by simp))⟩
    · have R := Lib.hid (prt_ok hc h1)
      have d1 : decide (f < 0) = false := by simp; omega
      have d2 : decide (t < f) = false := by simp; omega
      have d3 : decide (N < t) = false := by simp; omega
      clear hc h1
      go_enter Tryd.func62, Tryd.ntmps62
      go_wp2_with (go_at_call 21; refine (rCheck_ok N a len cap ws _ (hs.alloc _) hw hlen).mono ?_; rintro e w1 ⟨rfl, hb⟩; rw [HC.out]; obtain ⟨⟨d1, os1⟩, rfl⟩ := regrown_of_below hb; clear hb)
      go_ret
      exact ⟨ret_i64 R.out.symm, (below_box0 _ _).trans ((below_grow _ _ _).mono (by simp))⟩
  · have hcb : (chk N ws == 0) = false := by simpa using hc
    have R := Lib.hid (prt_chk (f := f) (t := t) hc)
    clear hc
    go_enter Tryd.func62, Tryd.ntmps62
    go_wp2_with (go_at_call 21; refine (rCheck_ok N a len cap ws _ (hs.alloc _) hw hlen).mono ?_; rintro e w1 ⟨rfl, hb⟩; obtain ⟨⟨d1, os1⟩, rfl⟩ := regrown_of_below hb; clear hb)
    go_ret
    exact ⟨ret_i64 R.out.symm, (below_box0 _ _).trans ((below_grow _ _ _).mono (by simp))⟩
end Go.Proofs.YtikdgnfcckenmaaDoor
