/- The reference for bits: words, Check. -/
import Derived.Test.YtikdgnfcckenmaaDoorBitsB
import Derived.Lib.SmallJoins
namespace Go.Proofs.YtikdgnfcckenmaaDoor
open Go.RowKit Go.Sort
attribute [local go_sem] cell_grow frozen_grow size_grow

theorem rwords_ok (n : Int) (w : World) (h0 : 0 ≤ n) (h1 : n ≤ 100000) :
    Calls Tryd.prog 54 #[.int .i64 n] w fun e w' => e = .returned (.int .i64 ((n + 63) / 64)) ∧ w = w' := by
  go_enter Tryd.func54, Tryd.ntmps54
  go_wp2
  go_ret
  exact ⟨rfl, rfl⟩
theorem rwords_quiet (n : Int) (w : World) (k : Nat) (h0 : 0 ≤ n) (h1 : n ≤ 100000) :
    Calls Tryd.prog 54 #[.int .i64 n] (w.drewN k) fun e w' => e = .returned (.int .i64 ((n + 63) / 64)) ∧ ∃ m, w' = w.drewN m :=
  Calls.quiet_of_same ((rwords_ok n _ h0 h1).mono fun _ _ h => ⟨h.1, h.2.symm⟩)

theorem bit_test (ws : List Nat) (k : Nat) (hw : ∀ x ∈ ws, x < 18446744073709551616) : (bits BinOp.and IntKind.u64 (((ws[k / 64]?.getD 0 : Nat) : Int) / 2 ^ (k % 64)) 1 == 1) = bat ws k := by
  have hx := getD_lt hw (by decide) (k / 64)
  unfold bat
  rw [List.getD_eq_getElem?_getD] at hx ⊢
  obtain ⟨x, hxd⟩ : ∃ x, ws[k / 64]?.getD 0 = x := ⟨_, rfl⟩
  rw [hxd] at hx ⊢
  have e : ((x : Nat) : Int) / 2 ^ (k % 64) = ((x / 2 ^ (k % 64) : Nat) : Int) := by simp
  rw [e, show (1 : Int) = ((1 : Nat) : Int) from rfl, u64_and_nat _ _ (Nat.lt_of_le_of_lt (Nat.div_le_self _ _) hx) (by decide), Nat.and_one_is_mod, Nat.testBit_eq_decide_div_mod_eq]
  rcases Nat.mod_two_eq_zero_or_one (x / 2 ^ (k % 64)) with h | h <;> rw [h] <;> rfl

set_option maxRecDepth 100000 in
set_option maxHeartbeats 800000 in
theorem rCheck_ok (N : Int) (a : Option Addr) (len cap : Nat) (ws : List Nat) (w : World) (hs : SlK .u64 w a len ws) (hw : ∀ x ∈ ws, x < 18446744073709551616) (hlen : len ≤ 9223372036854775807) :
    Calls Tryd.prog 21 #[.agg #[.int .i64 N, .slice a len cap]] w fun e w' => e = .returned (.int .i64 (chk N ws)) ∧ Below w.heap.size w w' := by
  have hL := hs.length
  by_cases h1 : N < 0
  · go_enter Tryd.func21, Tryd.ntmps21
    go_wp2
    go_ret
    exact ⟨ret_i64 (chk_range (.inl h1)).symm, below_box0 _ _⟩
  by_cases h2 : 4096 < N
  · go_enter Tryd.func21, Tryd.ntmps21
    go_wp2
    go_ret
    exact ⟨ret_i64 (chk_range (.inr h2)).symm, below_box0 _ _⟩
  obtain ⟨n, rfl⟩ := Int.eq_ofNat_of_zero_le (by omega : 0 ≤ N)
  have hr : ¬ ((n : Int) < 0 ∨ 4096 < (n : Int)) := by omega
  by_cases h3 : (len : Int) = ((n : Int) + 63) / 64
  · have hb : ((len : Int) != ((n : Int) + 63) / 64) = false := by simpa using h3
    have HC := Lib.hid hs.cells
    have H3 := Lib.hid h3
    have HL := Lib.hid hL
    have hlu : len ≤ 64 := by omega
    clear h3 hL
    go_enter Tryd.func21, Tryd.ntmps21
    go_wp2
    go_quiet ((go_at_call 54; exact rwords_quiet _ _ _ (by omega) (by omega)))
    go_wp2
    go_loopw [3] (fun i wr => ∃ k : Nat, i = .int .i64 k ∧ n ≤ k ∧ k ≤ 64 * len ∧ Hid (∀ j, n ≤ j → j < k → bat ws j = false) ∧ Hid (∃ d, wr = (w.alloc (.cells #[.int .i64 n, .slice a len cap] 24)).drewN d)) (fun i _ => 64 * len - (intOf i).toNat)
    case atStart => exact ⟨n, rfl, Nat.le_refl _, by have := H3.out; omega, Lib.hid (fun j h1 h2 => by omega), Lib.hid ⟨_, rfl⟩⟩
    case round =>
      obtain ⟨k, rfl, hk1, hk2, HP, HD⟩ := hrel
      obtain ⟨d, hd⟩ := HD.out
      have c0 : wr.cell? ⟨w.heap.size, 0, none⟩ = some (.int .i64 n) := by rw [hd]; simp [go_sem]
      have c1 : wr.cell? ⟨w.heap.size, 1, none⟩ = some (.slice a len cap) := by rw [hd]; simp [go_sem]
      have HD1 := Lib.hid hd
      clear hd
      by_cases hlt : k < 64 * len
      · obtain ⟨b, off, rfl, hc⟩ := HC.out.resolve_left (by omega)
        have hck : wr.cell? ⟨b, off + k / 64, none⟩ = some (.int .u64 (ws.getD (k / 64) 0 : Nat)) := by
          have hbl := World.block_lt_of_cell? _ _ (hc (k / 64) (by omega))
          rw [HD1.out]
          have := ((below_box0 w (.cells #[.int .i64 n, .slice (some ⟨b, off, none⟩) len cap] 24)).cell (p := ⟨b, off + k / 64, none⟩) hbl).trans (hc (k / 64) (by omega))
          simpa using this
        have i0 : (0 : Int) ≤ (k : Int) / 64 := by omega
        have i1 : (k : Int) / 64 < (len : Int) := by omega
        clear hc
        have hT := bit_test ws k hw
        by_cases hbt : bat ws k = true
        · rw [hbt] at hT
          have R := Lib.hid (chk_bad hr (by rw [HL.out]; exact H3.out) k (by rw [HL.out]; exact hlt) (by simpa using hk1) hbt)
          clear hbt
          go_wp2
          go_ret
          exact ⟨ret_i64 R.out.symm, by rw [HD1.out]; exact below_box _ _ _⟩
        · have hbf : bat ws k = false := by simpa using hbt
          rw [hbf] at hT
          have HB := Lib.hid hbf
          clear hbf hbt
          go_wp2
          exact ⟨⟨k + 1, by simp, by omega, by omega, Lib.hid (fun j h1 h2 => by
            by_cases hjk : j = k
            · rw [hjk]; exact HB.out
            · exact HP.out j h1 (by omega)), HD⟩, by simp [intOf]; omega⟩
      · have R := Lib.hid (chk_ok hr (by rw [HL.out]; exact H3.out) (fun i h1 h2 => HP.out i (by simpa using h2) (by rw [HL.out] at h1; omega)))
        go_wp2
        go_ret
        exact ⟨ret_i64 R.out.symm, by rw [HD1.out]; exact below_box _ _ _⟩
  · have hb : ((len : Int) != ((n : Int) + 63) / 64) = true := by simpa using h3
    have R := Lib.hid (chk_len hr (by rw [hL]; exact h3))
    clear h3 hL
    go_enter Tryd.func21, Tryd.ntmps21
    go_wp2
    go_quiet ((go_at_call 54; exact rwords_quiet _ _ _ (by omega) (by omega)))
    go_wp2
    go_ret
    exact ⟨ret_i64 R.out.symm, below_box _ _ _⟩
end Go.Proofs.YtikdgnfcckenmaaDoor
