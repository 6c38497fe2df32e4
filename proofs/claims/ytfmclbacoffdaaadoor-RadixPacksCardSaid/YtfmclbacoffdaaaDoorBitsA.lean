/- Package bits: words, Check: what they return. -/
import Derived.Test.YtfmclbacoffdaaaDoorBase
import Derived.Test.YtfmclbacoffdaaaDoorPlain
namespace Go.Proofs.YtfmclbacoffdaaaDoor
open Go.RowKit Go.Sort
attribute [local go_sem] cell_grow frozen_grow size_grow

theorem words_ok (n : Int) (w : World) (h0 : 0 ≤ n) (h1 : n ≤ 100000) :
    Calls Tryd.prog 60 #[.int .i64 n] w fun e w' => e = .returned (.int .i64 ((n + 63) / 64)) ∧ w = w' := by
  go_enter Tryd.func60, Tryd.ntmps60
  go_wp2
  go_ret
  exact ⟨rfl, rfl⟩

theorem words_quiet (n : Int) (w : World) (k : Nat) (h0 : 0 ≤ n) (h1 : n ≤ 100000) :
    Calls Tryd.prog 60 #[.int .i64 n] (w.drewN k) fun e w' => e = .returned (.int .i64 ((n + 63) / 64)) ∧ ∃ m, w' = w.drewN m :=
  Calls.quiet_of_same ((words_ok n _ h0 h1).mono fun _ _ h => ⟨h.1, h.2.symm⟩)

theorem below_box (w : World) (o : Obj) (k : Nat) : Below w.heap.size w ((w.alloc o).drewN k) := by
  have := (Below.refl w.heap.size w).alloc (Nat.le_refl _) o
  exact ⟨this.os, this.tape, this.output, this.size, this.block⟩
theorem below_box0 (w : World) (o : Obj) : Below w.heap.size w (w.alloc o) := (Below.refl _ _).alloc (Nat.le_refl _) o

theorem ret_i64 {a b : Int} (h : a = b) : Ending.returned (.int .i64 a) = .returned (.int .i64 b) := by rw [h]

theorem shr_yes {ws : List Nat} {i k : Nat} (h : ((ws[i]?.getD 0 : Nat) / 2 ^ k != (0 : Int)) = true) : ¬ ws.getD i 0 / 2 ^ k = 0 := by
  rw [List.getD_eq_getElem?_getD]
  intro h0
  have e : ((ws[i]?.getD 0 : Nat) : Int) / 2 ^ k = ((ws[i]?.getD 0 / 2 ^ k : Nat) : Int) := by simp
  rw [e, h0] at h; simp at h
theorem shr_no {ws : List Nat} {i k : Nat} (h : ((ws[i]?.getD 0 : Nat) / 2 ^ k != (0 : Int)) = false) : ws.getD i 0 / 2 ^ k = 0 := by
  rw [List.getD_eq_getElem?_getD]
  have e : ((ws[i]?.getD 0 : Nat) : Int) / 2 ^ k = ((ws[i]?.getD 0 / 2 ^ k : Nat) : Int) := by simp
  rw [e] at h; simp only [bne_eq_false_iff_eq] at h; exact_mod_cast h

set_option maxHeartbeats 400000 in
/-- bits.Check, whatever bits it is handed. -/
theorem bCheck_ok (N : Int) (a : Option Addr) (len cap : Nat) (ws : List Nat) (w : World) (hs : SlK .u64 w a len ws) (hw : ∀ x ∈ ws, x < 2 ^ 64) (hlen : len ≤ 9223372036854775807) :
    Calls Tryd.prog 77 #[.agg #[.int .i64 N, .slice a len cap]] w fun e w' => e = .returned (.int .i64 (chk N ws)) ∧ Below w.heap.size w w' := by
  have hL := hs.length
  by_cases h1 : N < 0
  · go_enter Tryd.func77, Tryd.ntmps77
    go_wp2
    go_ret
    exact ⟨ret_i64 (chk_range (.inl h1)).symm, below_box0 _ _⟩
  by_cases h2 : 4096 < N
  · go_enter Tryd.func77, Tryd.ntmps77
    go_wp2
    go_ret
    exact ⟨ret_i64 (chk_range (.inr h2)).symm, below_box0 _ _⟩
  obtain ⟨n, rfl⟩ := Int.eq_ofNat_of_zero_le (by omega : 0 ≤ N)
  have hr : ¬ ((n : Int) < 0 ∨ 4096 < (n : Int)) := by omega
  by_cases h3 : (len : Int) = ((n : Int) + 63) / 64
  · have hb : ((len : Int) != ((n : Int) + 63) / 64) = false := by simpa using h3
    by_cases h4 : n % 64 = 0
    · have R := Lib.hid (chk_word0 (by omega) (by rw [hL]; exact h3) h4 : chk n ws = 0)
      have hd : decide (0 < (n : Int) % 64) = false := by simp; omega
      clear hs hL h3 hr
      go_enter Tryd.func77, Tryd.ntmps77
      go_wp2
      go_quiet ((go_at_call 60; exact words_quiet _ _ _ (by omega) (by omega)))
      go_wp2
      go_ret
      exact ⟨ret_i64 R.out.symm, below_box _ _ _⟩
    · have R := Lib.hid (chk_word (by omega) (by rw [hL]; exact h3) (by omega) hw : chk n ws = _)
      have hd : decide (0 < (n : Int) % 64) = true := by simp; omega
      have hlt : n / 64 < len := by omega
      obtain ⟨b, off, rfl, hc⟩ := hs.cells.resolve_left (by omega)
      have hbl := World.block_lt_of_cell? _ _ (hc _ hlt)
      have hck := hc (n / 64) hlt
      have i0 : (0 : Int) ≤ (n : Int) / 64 := by omega
      have i1 : (n : Int) / 64 < (len : Int) := by omega
      clear hs hL h3 hr hc
      go_enter Tryd.func77, Tryd.ntmps77
      go_wp2
      go_quiet ((go_at_call 60; exact words_quiet _ _ _ (by omega) (by omega)))
      go_wp2
      · have ht : ((ws[n / 64]?.getD 0 : Nat) / 2 ^ (n % 64) != (0 : Int)) = true := by assumption
        go_ret
        exact ⟨ret_i64 (R.out.trans (if_neg (shr_yes ht))).symm, below_box _ _ _⟩
      · have ht : ((ws[n / 64]?.getD 0 : Nat) / 2 ^ (n % 64) != (0 : Int)) = false := by assumption
        go_ret
        exact ⟨ret_i64 (R.out.trans (if_pos (shr_no ht))).symm, below_box _ _ _⟩
  · have hb : ((len : Int) != ((n : Int) + 63) / 64) = true := by simpa using h3
    have R := Lib.hid (chk_len hr (by rw [hL]; exact h3) : chk n ws = 6)
    clear hs hL h3 hr
    go_enter Tryd.func77, Tryd.ntmps77
    go_wp2
    go_quiet ((go_at_call 60; exact words_quiet _ _ _ (by omega) (by omega)))
    go_wp2
    go_ret
    exact ⟨ret_i64 R.out.symm, below_box _ _ _⟩
end Go.Proofs.YtfmclbacoffdaaaDoor
