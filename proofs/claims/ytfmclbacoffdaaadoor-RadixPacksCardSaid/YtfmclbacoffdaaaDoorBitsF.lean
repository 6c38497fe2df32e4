/- Package bits: next, Next. -/
import Derived.Test.YtfmclbacoffdaaaDoorBitsE
namespace Go.Proofs.YtfmclbacoffdaaaDoor
open Go.RowKit Go.Sort
attribute [local go_sem] cell_grow frozen_grow size_grow

theorem tz_test (x : Int) (w : World) (hT : Tab w) (ht : (x != 0) = true) (hr : 0 ≤ x ∧ x < 18446744073709551616) :
    Calls Tryd.prog 79 #[.int .u64 x] w fun e w' => e = .returned (.int .i64 (Lib.ctz 64 x.toNat : Nat)) ∧ w = w' := by
  have : x ≠ 0 := by simpa using ht
  exact tz_int x w hT (by omega) hr.2

/-- the word that next looks at -/
theorem nx_word (ws : List Nat) (on : Bool) (n f k : Nat) : bits BinOp.and IntKind.u64 ((wrd (ws[k]?.getD 0) on (min 64 (n - 64 * k)) : Nat) : Int) ((mk (if (k : Int) * 64 < (f : Int) then (f : Int) - (k : Int) * 64 else 0).toNat 64 : Nat) : Int) =
    ((wrd (ws.getD k 0) on (min 64 (n - 64 * k)) &&& mk (f - 64 * k) 64 : Nat) : Int) := by
  rw [lo_nat, u64_and_nat _ _ (wrd_lt _ _ _) (mk_lt _ _), List.getD_eq_getElem?_getD]

set_option maxHeartbeats 800000 in
theorem bnext_ok (B : Nat) (n f : Nat) (on : Bool) (a : Option Addr) (len cap : Nat) (ws : List Nat) (w : World) (hT : Tab w) (hB : AtBits w B n a len cap) (hs : SlK .u64 w a len ws) (hw : ∀ x ∈ ws, x < 18446744073709551616) (hf : f ≤ n) (hn : n ≤ 4096) (hl : len = (n + 63) / 64) :
    Calls Tryd.prog 74 #[.pointer (some ⟨B, 0, none⟩), .int .i64 f, .bool on] w fun e w' => e = .returned (.int .i64 (nxt (look ws on) f n : Nat)) ∧ ∃ m, w' = w.drewN m := by
  have Hl := Lib.hid hl
  have hlu : len ≤ 64 := by omega
  clear hl
  go_enter Tryd.func74, Tryd.ntmps74
  go_wp2
  go_loopw [7] (fun i wr => ∃ k : Nat, f / 64 ≤ k ∧ k ≤ len ∧ i = .int .i64 k ∧ (∀ i, f ≤ i → i < min n (64 * k) → look ws on i = false) ∧ ∃ m, wr = w.drewN m) (fun i _ => len - (intOf i).toNat)
  case atStart => exact ⟨f / 64, Nat.le_refl _, by have := Hl.out; omega, by go_num, fun i h1 h2 => by omega, 0, rfl⟩
  case round =>
    obtain ⟨k, hk1, hk2, rfl, hpre, m, hm⟩ := hrel
    have Hm := Lib.hid hm
    have Hp := Lib.hid hpre
    have hTr : Tab wr := by rw [hm]; exact hT
    have hBr : AtBits wr B n a len cap := by rw [hm]; exact ⟨hB.n, hB.s⟩
    have hsr : SlK .u64 wr a len ws := by rw [hm]; exact ⟨hs.length, hs.cells⟩
    have c0 := hBr.n
    have c1 := hBr.s
    clear hm hpre
    by_cases hlt : k < len
    · have hkn : 64 * k ≤ n := by have := Hl.out; omega
      have hX := nx_word ws on n f k
      obtain ⟨X, hXd⟩ : ∃ X : Nat, X = wrd (ws.getD k 0) on (min 64 (n - 64 * k)) &&& mk (f - 64 * k) 64 := ⟨_, rfl⟩
      rw [← hXd] at hX
      have hXr : X < 18446744073709551616 := by rw [hXd]; exact Nat.lt_of_le_of_lt Nat.and_le_left (wrd_lt _ _ _)
      have HX := Lib.hid hXd
      clear hXd
      by_cases h0 : X = 0
      · have hb : ((X : Int) != 0) = false := by simpa using h0
        have H0 := Lib.hid h0
        clear h0
        go_wp2_with (first
          | (go_at_call 78; refine (bword_ok B n k on a len cap ws _ hBr hsr hw hlt hkn hn).mono ?_; rintro e w1 ⟨rfl, m1, rfl⟩)
          | (go_at_call 72; refine (mask_int _ _ _ (by omega) (by omega) (by omega) (by omega)).mono ?_; rintro e w1 ⟨rfl, m2, rfl⟩))
        all_goals go_roundw
        all_goals first
          | (refine ⟨k + 1, by omega, by omega, by go_num, fun i h1 h2 => ?_, drewN_of Hm.out _⟩
             by_cases hik : i < 64 * k
             · exact Hp.out i h1 (by omega)
             · exact next_none hw (by rw [← HX.out]; exact H0.out) (by omega) i h1 (by omega) (by omega))
          | (simp [intOf]; omega)
      · have hb : ((X : Int) != 0) = true := by simpa using h0
        have R := Lib.hid (next_some (ws := ws) (on := on) (n := n) (f := f) (k := k) hw (by rw [← HX.out]; exact h0) (by omega) hf Hp.out)
        have hcz := (ctz_bit h0 hXr).1
        go_wp2_with (first
          | (go_at_call 78; refine (bword_ok B n k on a len cap ws _ hBr hsr hw hlt hkn hn).mono ?_; rintro e w1 ⟨rfl, m1, rfl⟩)
          | (go_at_call 72; refine (mask_int _ _ _ (by omega) (by omega) (by omega) (by omega)).mono ?_; rintro e w1 ⟨rfl, m2, rfl⟩)
          | (go_at_call 79; refine (tz_ok X _ (by exact hTr) h0 hXr).mono ?_; rintro e w1 ⟨rfl, rfl⟩))
        all_goals go_ret
        all_goals exact ⟨ret_i64 (by rw [R.out, ← HX.out]; omega), drewN_of Hm.out _⟩
    · go_wp2
      go_ret
      refine ⟨ret_i64 ?_, _, Hm.out⟩
      have e : nxt (look ws on) f n = n := nxt_eq hf hf (Nat.le_refl _) (fun i h1 h2 => Hp.out i h1 (by have := Hl.out; omega)) (fun h => absurd h (by omega))
      rw [e]
/-- what Next returns -/
def nextV (N : Int) (ws : List Nat) (f : Int) (on : Bool) : Int := if prt N ws 0 f = 0 ∧ nxt (look ws on) f.toNat N.toNat < N.toNat then ((nxt (look ws on) f.toNat N.toNat : Nat) : Int) else 0
def nextE (N : Int) (ws : List Nat) (f : Int) (on : Bool) : Int := if prt N ws 0 f ≠ 0 then prt N ws 0 f else if nxt (look ws on) f.toNat N.toNat < N.toNat then 0 else 4

set_option maxHeartbeats 800000 in
theorem bNext_ok (N f : Int) (on : Bool) (a : Option Addr) (len cap : Nat) (ws : List Nat) (w : World) (hT : Tab w) (hs : SlK .u64 w a len ws) (hw : ∀ x ∈ ws, x < 18446744073709551616) (hlen : len ≤ 9223372036854775807) :
    Calls Tryd.prog 66 #[.agg #[.int .i64 N, .slice a len cap], .int .i64 f, .bool on] w fun e w' => e = .returned (.tuple #[.int .i64 (nextV N ws f on), .int .i64 (nextE N ws f on)]) ∧ Below w.heap.size w w' := by
  have hL := hs.length
  by_cases hp : prt N ws 0 f = 0
  · obtain ⟨hc, _, hf, hfN⟩ := prt_zero hp
    obtain ⟨hN0, hN, hl, _⟩ := chk_zero hc
    have hpb := bne0_false hp
    obtain ⟨f, rfl⟩ := Int.eq_ofNat_of_zero_le hf
    obtain ⟨n, rfl⟩ := Int.eq_ofNat_of_zero_le hN0
    have R1 : nextV n ws f on = if nxt (look ws on) f n < n then ((nxt (look ws on) f n : Nat) : Int) else 0 := by unfold nextV; simp [hp]
    have R2 : nextE n ws f on = if nxt (look ws on) f n < n then 0 else 4 := by unfold nextE; simp [hp]
    have hl' : len = (n + 63) / 64 := by omega
    obtain ⟨_, hr2, _, _⟩ := nxt_spec (p := look ws on) (a := f) (n := n) (by omega)
    have R1 := Lib.hid R1
    have R2 := Lib.hid R2
    have HL := Lib.hid hl'
    clear hp hc hL hl hl'
    by_cases hr : nxt (look ws on) f n < n
    · have hd : decide (((nxt (look ws on) f n : Nat) : Int) < (n : Int)) = true := by simpa using hr
      go_enter Tryd.func66, Tryd.ntmps66
      go_wp2_with (go_at_call 73; refine (bpart_ok _ n 0 f a len cap ws _ (AtBits.new w n a len cap _) (hs.alloc _) hw hlen).mono ?_; rintro e w1 ⟨rfl, hb⟩; obtain ⟨⟨d1, os1⟩, rfl⟩ := regrown_of_below hb; clear hb)
      refine (bnext_ok w.heap.size n f on a len cap ws _ ((hT.alloc _).grow _ _) ((AtBits.new w n a len cap _).below (below_grow _ _ _)) ((hs.alloc _).grow _ _) hw (by omega) (by omega) HL.out).mono ?_
      rintro e w1 ⟨rfl, m, rfl⟩
      go_wp2
      go_ret2
      exact ⟨ret_two (by rw [R1.out, if_pos hr]) (by rw [R2.out, if_pos hr]), (below_box0 _ _).trans ((grow_drewN _ _ _ _).mono (by simp))⟩
    · have hd : decide (((nxt (look ws on) f n : Nat) : Int) < (n : Int)) = false := by simp; omega
      go_enter Tryd.func66, Tryd.ntmps66
      go_wp2_with (go_at_call 73; refine (bpart_ok _ n 0 f a len cap ws _ (AtBits.new w n a len cap _) (hs.alloc _) hw hlen).mono ?_; rintro e w1 ⟨rfl, hb⟩; obtain ⟨⟨d1, os1⟩, rfl⟩ := regrown_of_below hb; clear hb)
      refine (bnext_ok w.heap.size n f on a len cap ws _ ((hT.alloc _).grow _ _) ((AtBits.new w n a len cap _).below (below_grow _ _ _)) ((hs.alloc _).grow _ _) hw (by omega) (by omega) HL.out).mono ?_
      rintro e w1 ⟨rfl, m, rfl⟩
      go_wp2
      go_ret2
      exact ⟨ret_two (by rw [R1.out, if_neg hr]) (by rw [R2.out, if_neg hr]), (below_box0 _ _).trans ((grow_drewN _ _ _ _).mono (by simp))⟩
  · have hpb := bne0_true hp
    have R1 : nextV N ws f on = 0 := by unfold nextV; rw [if_neg (fun h => hp h.1)]
    have R2 : nextE N ws f on = prt N ws 0 f := by unfold nextE; rw [if_pos hp]
    have R1 := Lib.hid R1
    have R2 := Lib.hid R2
    clear hp
    go_enter Tryd.func66, Tryd.ntmps66
    go_wp2_with (go_at_call 73; refine (bpart_ok _ N 0 f a len cap ws _ (AtBits.new w N a len cap _) (hs.alloc _) hw hlen).mono ?_; rintro e w1 ⟨rfl, hb⟩; obtain ⟨⟨d1, os1⟩, rfl⟩ := regrown_of_below hb; clear hb)
    go_ret2
    exact ⟨ret_two R1.out.symm R2.out.symm, (below_box0 _ _).trans ((below_grow _ _ _).mono (by simp))⟩
end Go.Proofs.YtfmclbacoffdaaaDoor
