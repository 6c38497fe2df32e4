/- Package bits: Last. -/
import Derived.Test.YtikdgnfcckenmaaDoorBitsK
import Derived.Test.YtikdgnfcckenmaaDoorBitsL
import Derived.Test.YtikdgnfcckenmaaDoorPlainV
namespace Go.Proofs.YtikdgnfcckenmaaDoor
open Go.RowKit Go.Sort
attribute [local go_sem] cell_grow frozen_grow size_grow

/-- the word that Last looks at -/
theorem ls_word (ws : List Nat) (on : Bool) (n t k : Nat) : bits BinOp.and IntKind.u64 ((wrd (ws[k]?.getD 0) on (min 64 (n - 64 * k)) : Nat) : Int) ((mk 0 (min 64 ((t : Int) - (k : Int) * 64)).toNat : Nat) : Int) =
    ((wrd (ws.getD k 0) on (min 64 (n - 64 * k)) &&& mk 0 (min 64 (t - 64 * k)) : Nat) : Int) := by
  rw [show (min 64 ((t : Int) - (k : Int) * 64)).toNat = min 64 (t - 64 * k) by omega, u64_and_nat _ _ (wrd_lt _ _ _) (mk_lt _ _), List.getD_eq_getElem?_getD]
/-- what Last returns -/
def lastV (N : Int) (ws : List Nat) (t : Int) (on : Bool) : Int := if prt N ws 0 t = 0 then (((lst (look ws on) t.toNat).getD 0 : Nat) : Int) else 0
def lastE (N : Int) (ws : List Nat) (t : Int) (on : Bool) : Int := if prt N ws 0 t ≠ 0 then prt N ws 0 t else if lst (look ws on) t.toNat = none then 4 else 0

set_option maxHeartbeats 1600000 in
theorem bLast_ok (N t : Int) (on : Bool) (a : Option Addr) (len cap : Nat) (ws : List Nat) (w : World) (hs : SlK .u64 w a len ws) (hw : ∀ x ∈ ws, x < 18446744073709551616) (hlen : len ≤ 9223372036854775807) :
    Calls Tryd.prog 30 #[.agg #[.int .i64 N, .slice a len cap], .int .i64 t, .bool on] w fun e w' => e = .returned (.tuple #[.int .i64 (lastV N ws t on), .int .i64 (lastE N ws t on)]) ∧ Below w.heap.size w w' := by
  have hL := hs.length
  by_cases hp : prt N ws 0 t = 0
  · obtain ⟨hc, _, ht, htN⟩ := prt_zero hp
    obtain ⟨hN0, hN, hl, _⟩ := chk_zero hc
    have hpb := bne0_false hp
    obtain ⟨t, rfl⟩ := Int.eq_ofNat_of_zero_le ht
    obtain ⟨n, rfl⟩ := Int.eq_ofNat_of_zero_le hN0
    have R1 : lastV n ws t on = (((lst (look ws on) t).getD 0 : Nat) : Int) := by unfold lastV; rw [if_pos hp]; rfl
    have R2 : lastE n ws t on = if lst (look ws on) t = none then 4 else 0 := by unfold lastE; rw [if_neg (by simpa using hp)]; rfl
    have hl' : len = (n + 63) / 64 := by omega
    have hlu : len ≤ 64 := by omega
    have htn : t ≤ n := by omega
    have R1 := Lib.hid R1
    have R2 := Lib.hid R2
    have HL := Lib.hid hl'
    clear hp hc hL hl hl'
    go_enter Tryd.func30, Tryd.ntmps30
    go_wp2_with (
      go_at_call 55
      refine (bpart_ok _ n 0 t a len cap ws _ (AtBits.new w n a len cap _) (hs.alloc _) hw hlen).mono ?_
      rintro e w1 ⟨rfl, hb⟩
      have hB1 : AtBits w1 w.heap.size n a len cap := (AtBits.new w n a len cap _).below hb
      have hs1 : SlK .u64 w1 a len ws := (hs.alloc _).below hb
      have hbw : Below w.heap.size w w1 := (below_box0 _ _).trans (hb.mono (by simp))
      clear hb)
    go_loopw [9] (fun i wr => ∃ k : Nat, k ≤ (t + 63) / 64 ∧ i = .int .i64 ((k : Int) - 1) ∧ Hid (∀ i, 64 * k ≤ i → i < t → look ws on i = false) ∧ Hid (∃ m, wr = w1.drewN m)) (fun i _ => (intOf i + 1).toNat)
    case atStart => exact ⟨(t + 63) / 64, Nat.le_refl _, by go_num, Lib.hid (fun i h1 h2 => by omega), Lib.hid ⟨0, rfl⟩⟩
    case round =>
      obtain ⟨k, hk, rfl, HP, HM⟩ := hrel
      obtain ⟨m, hm⟩ := HM.out
      have hBr : AtBits wr w.heap.size n a len cap := by rw [hm]; exact ⟨hB1.n, hB1.s⟩
      have hsr : SlK .u64 wr a len ws := by rw [hm]; exact ⟨hs1.length, hs1.cells⟩
      have Hm := Lib.hid hm
      have c0 := hBr.n
      have c1 := hBr.s
      clear hm
      cases k with
      | zero =>
        have R : lst (look ws on) t = none := lst_none fun i hi => HP.out i (by omega) hi
        have R := Lib.hid R
        rw [show ((0 : Nat) : Int) - 1 = -1 from rfl]
        go_wp2
        go_ret2
        exact ⟨ret_two (by rw [R1.out, R.out]; rfl) (by rw [R2.out, R.out]; rfl), by rw [Hm.out]; exact below_drew hbw _⟩
      | succ k =>
        rw [show ((k + 1 : Nat) : Int) - 1 = (k : Int) by omega]
        have hlt : k < len := by have := HL.out; omega
        have hkn : 64 * k ≤ n := by omega
        have hkt : (k : Int) * 64 < (t : Int) := by omega
        have hX := ls_word ws on n t k
        obtain ⟨X, hXd⟩ : ∃ X : Nat, X = wrd (ws.getD k 0) on (min 64 (n - 64 * k)) &&& mk 0 (min 64 (t - 64 * k)) := ⟨_, rfl⟩
        rw [← hXd] at hX
        have hXr : X < 18446744073709551616 := by rw [hXd]; exact Nat.lt_of_le_of_lt Nat.and_le_left (wrd_lt _ _ _)
        have HX := Lib.hid hXd
        clear hXd
        by_cases h0 : X = 0
        · have hb : ((X : Int) != 0) = false := by simpa using h0
          have H0 := Lib.hid h0
          clear h0
          go_wp2_with (first
            | (go_at_call 59; refine (bword_ok w.heap.size n k on a len cap ws _ hBr hsr hw hlt hkn (by omega)).mono ?_; rintro e w2 ⟨rfl, m1, rfl⟩)
            | (go_at_call 63; refine (mask_int _ _ _ (by omega) (by omega) (by omega) (by omega)).mono ?_; rintro e w2 ⟨rfl, m2, rfl⟩))
          all_goals go_roundw
          all_goals first
            | (refine ⟨k, by omega, by simp, Lib.hid (fun i h1 h2 => ?_), Lib.hid (drewN_of Hm.out _)⟩
               by_cases hik : i < 64 * (k + 1)
               · exact last_none hw htn (by rw [← HX.out]; exact H0.out) i h1 hik h2
               · exact HP.out i (by omega) h2)
            | (simp [intOf])
        · have hb : ((X : Int) != 0) = true := by simpa using h0
          have hbl := top_bit h0 hXr
          have R := Lib.hid (last_some (ws := ws) (on := on) (n := n) (t := t) (k := k) hw htn (by rw [← HX.out]; exact h0) HP.out)
          obtain ⟨q1, q2, -, -⟩ := hbl
          go_wp2_with (first
            | (go_at_call 59; refine (bword_ok w.heap.size n k on a len cap ws _ hBr hsr hw hlt hkn (by omega)).mono ?_; rintro e w2 ⟨rfl, m1, rfl⟩)
            | (go_at_call 63; refine (mask_int _ _ _ (by omega) (by omega) (by omega) (by omega)).mono ?_; rintro e w2 ⟨rfl, m2, rfl⟩)
            | (go_at_call 64; refine (lz_ok X _ hXr).mono ?_; rintro e w2 ⟨rfl, rfl⟩))
          all_goals go_ret2
          all_goals exact ⟨ret_two (by rw [R1.out, R.out, ← HX.out]; simp; omega) (by rw [R2.out, R.out]; rfl), by obtain ⟨q, hq⟩ := drewN_of Hm.out _; rw [hq]; exact below_drew hbw _⟩
  · have hpb := bne0_true hp
    have R1 : lastV N ws t on = 0 := by unfold lastV; rw [if_neg hp]
    have R2 : lastE N ws t on = prt N ws 0 t := by unfold lastE; rw [if_pos hp]
    have R1 := Lib.hid R1
    have R2 := Lib.hid R2
    clear hp
    go_enter Tryd.func30, Tryd.ntmps30
    go_wp2_with (go_at_call 55; refine (bpart_ok _ N 0 t a len cap ws _ (AtBits.new w N a len cap _) (hs.alloc _) hw hlen).mono ?_; rintro e w1 ⟨rfl, hb⟩; obtain ⟨⟨d1, os1⟩, rfl⟩ := regrown_of_below hb; clear hb)
    go_ret2
    exact ⟨ret_two R1.out.symm R2.out.symm, (below_box0 _ _).trans ((below_grow _ _ _).mono (by simp))⟩
end Go.Proofs.YtikdgnfcckenmaaDoor
