/- The reference for bits: Get, Count, Select, Next, Last. -/
import Derived.Test.YtikdgnfcckenmaaDoorRefC
import Derived.Test.YtikdgnfcckenmaaDoorBitsN
import Derived.Test.YtikdgnfcckenmaaDoorBitsM
namespace Go.Proofs.YtikdgnfcckenmaaDoor
open Go.RowKit Go.Sort Go.Joins
attribute [local go_sem] cell_grow frozen_grow size_grow

/-- bits in a box (what a function of the reference does with its argument) -/
structure RAt (w : World) (N : Int) (a : Option Addr) (len cap : Nat) (ws : List Nat) (W : World) : Prop where
  b : AtBits W w.heap.size N a len cap
  s : SlK .u64 W a len ws
  k : Below w.heap.size w W
  l : w.heap.size < W.heap.size
theorem RAt.below {w : World} {N : Int} {a : Option Addr} {len cap : Nat} {ws : List Nat} {W W' : World} (h : RAt w N a len cap ws W) (hb : Below W.heap.size W W') : RAt w N a len cap ws W' :=
  ⟨h.b.below hb, h.s.below hb, h.k.trans (hb.mono (Nat.le_of_lt h.l)), Nat.lt_of_lt_of_le h.l hb.size⟩
theorem RAt.new {w : World} {N : Int} {a : Option Addr} {len cap : Nat} {ws : List Nat} (hs : SlK .u64 w a len ws) (T : TypeId) : RAt w N a len cap ws (w.alloc (.cells #[.int .i64 N, .slice a len cap] T)) :=
  ⟨AtBits.new w N a len cap _, hs.alloc _, below_box0 _ _, by simp⟩
section
variable {w : World} {N : Int} {a : Option Addr} {len cap : Nat} {ws : List Nat} {W : World}
theorem r_check (R : RAt w N a len cap ws W) (hw : ∀ x ∈ ws, x < 18446744073709551616) (hlen : len ≤ 9223372036854775807) :
    Calls Tryd.prog 21 #[.agg #[.int .i64 N, .slice a len cap]] W fun e w' => e = .returned (.int .i64 (chk N ws)) ∧ RAt w N a len cap ws w' :=
  (rCheck_ok N a len cap ws W R.s hw hlen).mono fun _ _ k => ⟨k.1, R.below k.2⟩
theorem r_part (R : RAt w N a len cap ws W) (hw : ∀ x ∈ ws, x < 18446744073709551616) (hlen : len ≤ 9223372036854775807) (f t : Int) :
    Calls Tryd.prog 62 #[.agg #[.int .i64 N, .slice a len cap], .int .i64 f, .int .i64 t] W fun e w' => e = .returned (.int .i64 (prt N ws f t)) ∧ RAt w N a len cap ws w' :=
  (rpart_ok N f t a len cap ws W R.s hw hlen).mono fun _ _ k => ⟨k.1, R.below k.2⟩
/-- the list of the bits: its cells -/
theorem r_list {n : Nat} (R : RAt w n a len cap ws W) (hw : ∀ x ∈ ws, x < 18446744073709551616) (hc : chk n ws = 0) :
    Calls Tryd.prog 51 #[.agg #[.int .i64 n, .slice a len cap]] W fun e w' => ∃ v g c, e = .returned (.slice v n c) ∧ (0 < n → v = some ⟨g, 0, none⟩) ∧ (∀ j, j < n → w'.cell? ⟨g, j, none⟩ = some (.bool (bat ws j))) ∧ RAt w n a len cap ws w' := by
  obtain ⟨_, hn, hl, _⟩ := chk_zero hc
  refine (rList_ok n a len cap ws W R.s hw (by omega) (by have := R.s.length; omega)).mono fun _ w' ⟨v, h1, h2, h3⟩ => ?_
  obtain ⟨va, vc, rfl⟩ := own_slice h2
  by_cases h0 : n = 0
  · exact ⟨va, 0, vc, h1, fun h => by omega, fun j hj => by omega, R.below h3⟩
  · obtain ⟨g, cap', hv⟩ := ownsRow_form h2 (by omega)
    cases hv
    exact ⟨_, g, _, h1, fun _ => rfl, fun j hj => own_bool h2 j hj, R.below h3⟩
end

set_option maxRecDepth 100000 in
set_option maxHeartbeats 1600000 in
theorem rCount_ok (N f t : Int) (a : Option Addr) (len cap : Nat) (ws : List Nat) (w : World) (hs : SlK .u64 w a len ws) (hw : ∀ x ∈ ws, x < 18446744073709551616) (hlen : len ≤ 9223372036854775807) :
    Calls Tryd.prog 40 #[.agg #[.int .i64 N, .slice a len cap], .int .i64 f, .int .i64 t] w fun e w' => e = .returned (.tuple #[.int .i64 (cntV N ws f t), .int .i64 (prt N ws f t)]) ∧ Below w.heap.size w w' := by
  by_cases hp : prt N ws f t = 0
  · obtain ⟨hc, hf, hft, htN⟩ := prt_zero hp
    obtain ⟨hN0, hN, -, -⟩ := chk_zero hc
    have R : cntV N ws f t = ((cnt (bat ws) f.toNat t.toNat : Nat) : Int) := by unfold cntV; rw [if_pos hp]
    obtain ⟨f, rfl⟩ := Int.eq_ofNat_of_zero_le hf
    obtain ⟨t, rfl⟩ := Int.eq_ofNat_of_zero_le (by omega : 0 ≤ t)
    obtain ⟨n, rfl⟩ := Int.eq_ofNat_of_zero_le hN0
    rw [Int.toNat_natCast, Int.toNat_natCast] at R
    replace R := Lib.hid R
    have P := Lib.hid hp
    have HC := Lib.hid hc
    clear hp hc
    go_enter Tryd.func40, Tryd.ntmps40
    go_wp2_with fail
    refine (r_part (RAt.new hs _) hw hlen f t).mono ?_
    rintro e w1 ⟨rfl, r1⟩
    have c0 := r1.b.n
    have c1 := r1.b.s
    have R1 := Lib.hid r1
    rw [P.out]
    clear r1
    go_wp2_with fail
    refine (r_list R1.out hw HC.out).mono ?_
    rintro e w2 ⟨v, g, c, rfl, hv, hcl, r2⟩
    have R2 := Lib.hid r2
    have HCL := Lib.hid hcl
    have HV := Lib.hid hv
    clear r2 hcl hv
    go_wp2
    go_loop [10, 11] (fun x i => ∃ k : Nat, f ≤ k ∧ k ≤ t ∧ i = .int .i64 k ∧ x = .int .i64 (cnt (bat ws) f k : Nat)) (fun _ i => t - (intOf i).toNat)
    case atStart => exact ⟨f, Nat.le_refl _, by omega, rfl, by rw [cnt_zero (Nat.le_refl _)]; rfl⟩
    case round =>
      obtain ⟨k, hk1, hk2, rfl, rfl⟩ := hrel
      by_cases hlt : k < t
      · have hck := HCL.out k (by omega)
        obtain rfl := HV.out (by omega)
        have hcl := cnt_le (bat ws) f k
        have hkn : (k : Int) < (n : Int) := by omega
        by_cases hb : bat ws k = true
        · have HS : Hid (cnt (bat ws) f (k + 1) = cnt (bat ws) f k + 1) := Lib.hid (by simp [cnt, hb, hk1])
          rw [hb] at hck
          clear hb
          go_wp2
          go_round
          case rel => exact ⟨k + 1, by omega, by omega, by go_num, by rw [HS.out]; go_num⟩
          case measure => simp [intOf]; omega
        · have hbf : bat ws k = false := by simpa using hb
          have HS : Hid (cnt (bat ws) f (k + 1) = cnt (bat ws) f k) := Lib.hid (by simp [cnt, hbf])
          rw [hbf] at hck
          clear hb hbf
          go_wp2
          go_round
          case rel => exact ⟨k + 1, by omega, by omega, by go_num, by rw [HS.out]⟩
          case measure => simp [intOf]; omega
      · have hkt : k = t := by omega
        subst hkt
        go_wp2
        go_ret2
        exact ⟨ret_two R.out.symm P.out.symm, R2.out.k⟩
  · have hpb := bne0_true hp
    have R : cntV N ws f t = 0 := by unfold cntV; rw [if_neg hp]
    replace R := Lib.hid R
    clear hp
    go_enter Tryd.func40, Tryd.ntmps40
    go_wp2_with fail
    refine (r_part (RAt.new hs _) hw hlen f t).mono ?_
    rintro e w1 ⟨rfl, r1⟩
    have R1 := Lib.hid r1
    clear r1
    go_wp2
    go_ret2
    exact ⟨ret_two R.out.symm rfl, R1.out.k⟩

/-- what Select returns -/
def selE (N : Int) (ws : List Nat) (k : Int) (on : Bool) : Int := if chk N ws ≠ 0 then chk N ws else if k < 0 then 7 else if selP (look ws on) N.toNat k.toNat < N.toNat then 0 else 4
def selV (N : Int) (ws : List Nat) (k : Int) (on : Bool) : Int := if selE N ws k on = 0 then ((selP (look ws on) N.toNat k.toNat : Nat) : Int) else 0

set_option maxRecDepth 100000 in
set_option maxHeartbeats 1600000 in
theorem rSelect_ok (N k : Int) (on : Bool) (a : Option Addr) (len cap : Nat) (ws : List Nat) (w : World) (hs : SlK .u64 w a len ws) (hw : ∀ x ∈ ws, x < 18446744073709551616) (hlen : len ≤ 9223372036854775807) (hk : k ≤ 9223372036854775807) :
    Calls Tryd.prog 28 #[.agg #[.int .i64 N, .slice a len cap], .int .i64 k, .bool on] w fun e w' => e = .returned (.tuple #[.int .i64 (selV N ws k on), .int .i64 (selE N ws k on)]) ∧ Below w.heap.size w w' := by
  by_cases hc : chk N ws = 0
  · obtain ⟨hN0, hN, -, -⟩ := chk_zero hc
    obtain ⟨n, rfl⟩ := Int.eq_ofNat_of_zero_le hN0
    have HC := Lib.hid hc
    by_cases hk0 : k < 0
    · have E : selE n ws k on = 7 := by unfold selE; rw [if_neg (by simpa using hc), if_pos hk0]
      have V : selV n ws k on = 0 := by unfold selV; rw [E]; rfl
      replace E := Lib.hid E
      replace V := Lib.hid V
      clear hc
      go_enter Tryd.func28, Tryd.ntmps28
      go_wp2_with fail
      refine (r_check (RAt.new hs _) hw hlen).mono ?_
      rintro e w1 ⟨rfl, r1⟩
      have R1 := Lib.hid r1
      rw [HC.out]
      clear r1
      go_wp2
      go_ret2
      exact ⟨ret_two V.out.symm E.out.symm, R1.out.k⟩
    · obtain ⟨k, rfl⟩ := Int.eq_ofNat_of_zero_le (by omega : 0 ≤ k)
      have E : selE n ws k on = if selP (look ws on) n k < n then 0 else 4 := by unfold selE; rw [if_neg (by simpa using hc), if_neg hk0]; rfl
      have V : selV n ws k on = if selP (look ws on) n k < n then ((selP (look ws on) n k : Nat) : Int) else 0 := by
        unfold selV; rw [E]; by_cases h : selP (look ws on) n k < n <;> simp [h]
      replace E := Lib.hid E
      replace V := Lib.hid V
      clear hc
      go_enter Tryd.func28, Tryd.ntmps28
      go_wp2_with fail
      refine (r_check (RAt.new hs _) hw hlen).mono ?_
      rintro e w1 ⟨rfl, r1⟩
      have c0 := r1.b.n
      have c1 := r1.b.s
      have R1 := Lib.hid r1
      rw [HC.out]
      clear r1
      go_wp2_with fail
      refine (r_list R1.out hw HC.out).mono ?_
      rintro e w2 ⟨v, g, c, rfl, hv, hcl, r2⟩
      have R2 := Lib.hid r2
      have HCL := Lib.hid hcl
      have HV := Lib.hid hv
      clear r2 hcl hv
      go_wp2
      go_loop [1, 10] (fun x i => ∃ j r : Nat, j ≤ n ∧ i = .int .i64 j ∧ x = .int .i64 r ∧ r ≤ k ∧ Hid (r + cnt (look ws on) 0 j = k)) (fun _ i => n - (intOf i).toNat)
      case atStart => exact ⟨0, k, Nat.zero_le _, rfl, rfl, Nat.le_refl _, Lib.hid (by simp [cnt])⟩
      case round =>
        obtain ⟨j, r, hj, rfl, rfl, hr, HR⟩ := hrel
        by_cases hlt : j < n
        · have hck := HCL.out j (by omega)
          obtain rfl := HV.out (by omega)
          have hkn : (j : Int) < (n : Int) := by omega
          by_cases hp : look ws on j = true
          · have hb : (bat ws j == on) = true := by have := hp; unfold look at this; exact this
            have HS : Hid (cnt (look ws on) 0 (j + 1) = cnt (look ws on) 0 j + 1) := Lib.hid (by rw [cnt_step, if_pos hp])
            have HP := Lib.hid hp
            clear hp
            by_cases hr0 : r = 0
            · have hrb : ((r : Int) == 0) = true := by simpa using hr0
              have S : Hid (selP (look ws on) n k = j) := Lib.hid (selP_eq hlt HP.out (by have := HR.out; omega))
              clear hr0
              go_wp2
              go_ret2
              exact ⟨ret_two (by rw [V.out, S.out, if_pos hlt]) (by rw [E.out, S.out, if_pos hlt]), R2.out.k⟩
            · have hrb : ((r : Int) == 0) = false := by simpa using hr0
              go_wp2
              go_round
              case rel => exact ⟨j + 1, r - 1, by omega, by go_num, by congr 1; omega, by omega, Lib.hid (by rw [HS.out]; have := HR.out; omega)⟩
              case measure => simp [intOf]; omega
          · have hb : (bat ws j == on) = false := by have := hp; unfold look at this; simpa using this
            have HS : Hid (cnt (look ws on) 0 (j + 1) = cnt (look ws on) 0 j) := Lib.hid (by rw [cnt_step, if_neg hp]; rfl)
            clear hp
            go_wp2
            go_round
            case rel => exact ⟨j + 1, r, by omega, by go_num, rfl, hr, Lib.hid (by rw [HS.out]; exact HR.out)⟩
            case measure => simp [intOf]; omega
        · have hjn : j = n := by omega
          subst hjn
          have S : Hid (selP (look ws on) j k = j) := Lib.hid (selP_none (by have := HR.out; omega))
          go_wp2
          go_ret2
          exact ⟨ret_two (by rw [V.out, S.out, if_neg (Nat.lt_irrefl _)]) (by rw [E.out, S.out, if_neg (Nat.lt_irrefl _)]), R2.out.k⟩
  · have hcb := bne0_true hc
    have E : selE N ws k on = chk N ws := by unfold selE; rw [if_pos hc]
    have V : selV N ws k on = 0 := by unfold selV; rw [E, if_neg hc]
    replace E := Lib.hid E
    replace V := Lib.hid V
    clear hc
    go_enter Tryd.func28, Tryd.ntmps28
    go_wp2_with fail
    refine (r_check (RAt.new hs _) hw hlen).mono ?_
    rintro e w1 ⟨rfl, r1⟩
    have R1 := Lib.hid r1
    clear r1
    go_wp2
    go_ret2
    exact ⟨ret_two V.out.symm E.out.symm, R1.out.k⟩

set_option maxRecDepth 100000 in
set_option maxHeartbeats 1600000 in
theorem rNext_ok (N f : Int) (on : Bool) (a : Option Addr) (len cap : Nat) (ws : List Nat) (w : World) (hs : SlK .u64 w a len ws) (hw : ∀ x ∈ ws, x < 18446744073709551616) (hlen : len ≤ 9223372036854775807) :
    Calls Tryd.prog 29 #[.agg #[.int .i64 N, .slice a len cap], .int .i64 f, .bool on] w fun e w' => e = .returned (.tuple #[.int .i64 (nextV N ws f on), .int .i64 (nextE N ws f on)]) ∧ Below w.heap.size w w' := by
  by_cases hp : prt N ws 0 f = 0
  · obtain ⟨hc, _, hf, hfN⟩ := prt_zero hp
    obtain ⟨hN0, hN, -, -⟩ := chk_zero hc
    obtain ⟨f, rfl⟩ := Int.eq_ofNat_of_zero_le hf
    obtain ⟨n, rfl⟩ := Int.eq_ofNat_of_zero_le hN0
    have V : nextV n ws f on = if nxt (look ws on) f n < n then ((nxt (look ws on) f n : Nat) : Int) else 0 := by unfold nextV; simp [hp]
    have E : nextE n ws f on = if nxt (look ws on) f n < n then 0 else 4 := by unfold nextE; simp [hp]
    replace E := Lib.hid E
    replace V := Lib.hid V
    have P := Lib.hid hp
    have HC := Lib.hid hc
    have hfn : f ≤ n := by omega
    clear hp hc
    go_enter Tryd.func29, Tryd.ntmps29
    go_wp2_with fail
    refine (r_part (RAt.new hs _) hw hlen 0 f).mono ?_
    rintro e w1 ⟨rfl, r1⟩
    have c0 := r1.b.n
    have c1 := r1.b.s
    have R1 := Lib.hid r1
    rw [P.out]
    clear r1
    go_wp2_with fail
    refine (r_list R1.out hw HC.out).mono ?_
    rintro e w2 ⟨v, g, c, rfl, hv, hcl, r2⟩
    have R2 := Lib.hid r2
    have HCL := Lib.hid hcl
    have HV := Lib.hid hv
    clear r2 hcl hv
    go_wp2
    go_loop [10] (fun i => ∃ j : Nat, f ≤ j ∧ j ≤ n ∧ i = .int .i64 j ∧ Hid (∀ i, f ≤ i → i < j → look ws on i = false)) (fun i => n - (intOf i).toNat)
    case atStart => exact ⟨f, Nat.le_refl _, hfn, rfl, Lib.hid (fun i h1 h2 => by omega)⟩
    case round =>
      obtain ⟨j, hj0, hj, rfl, HP⟩ := hrel
      by_cases hlt : j < n
      · have hck := HCL.out j (by omega)
        obtain rfl := HV.out (by omega)
        have hkn : (j : Int) < (n : Int) := by omega
        by_cases hp : look ws on j = true
        · have hb : (bat ws j == on) = true := by have := hp; unfold look at this; exact this
          have S : Hid (nxt (look ws on) f n = j) := Lib.hid (nxt_eq hfn hj0 (by omega) HP.out (fun _ => hp))
          clear hp
          go_wp2
          go_ret2
          exact ⟨ret_two (by rw [V.out, S.out, if_pos hlt]) (by rw [E.out, S.out, if_pos hlt]), R2.out.k⟩
        · have hb : (bat ws j == on) = false := by have := hp; unfold look at this; simpa using this
          have HF := Lib.hid hp
          clear hp
          go_wp2
          go_round
          case rel => exact ⟨j + 1, by omega, by omega, by go_num, Lib.hid (fun i h1 h2 => by
            by_cases hij : i = j
            · rw [hij]; simpa using HF.out
            · exact HP.out i h1 (by omega))⟩
          case measure => simp [intOf]; omega
      · have hjn : j = n := by omega
        subst hjn
        have S : Hid (nxt (look ws on) f j = j) := Lib.hid (nxt_eq hfn hj0 (Nat.le_refl _) HP.out (fun h => by omega))
        go_wp2
        go_ret2
        exact ⟨ret_two (by rw [V.out, S.out, if_neg (Nat.lt_irrefl _)]) (by rw [E.out, S.out, if_neg (Nat.lt_irrefl _)]), R2.out.k⟩
  · have hpb := bne0_true hp
    have V : nextV N ws f on = 0 := by unfold nextV; rw [if_neg (fun h => hp h.1)]
    have E : nextE N ws f on = prt N ws 0 f := by unfold nextE; rw [if_pos hp]
    replace E := Lib.hid E
    replace V := Lib.hid V
    clear hp
    go_enter Tryd.func29, Tryd.ntmps29
    go_wp2_with fail
    refine (r_part (RAt.new hs _) hw hlen 0 f).mono ?_
    rintro e w1 ⟨rfl, r1⟩
    have R1 := Lib.hid r1
    clear r1
    go_wp2
    go_ret2
    exact ⟨ret_two V.out.symm E.out.symm, R1.out.k⟩

set_option maxRecDepth 100000 in
set_option maxHeartbeats 1600000 in
theorem rLast_ok (N t : Int) (on : Bool) (a : Option Addr) (len cap : Nat) (ws : List Nat) (w : World) (hs : SlK .u64 w a len ws) (hw : ∀ x ∈ ws, x < 18446744073709551616) (hlen : len ≤ 9223372036854775807) :
    Calls Tryd.prog 31 #[.agg #[.int .i64 N, .slice a len cap], .int .i64 t, .bool on] w fun e w' => e = .returned (.tuple #[.int .i64 (lastV N ws t on), .int .i64 (lastE N ws t on)]) ∧ Below w.heap.size w w' := by
  by_cases hp : prt N ws 0 t = 0
  · obtain ⟨hc, _, ht, htN⟩ := prt_zero hp
    obtain ⟨hN0, hN, -, -⟩ := chk_zero hc
    obtain ⟨t, rfl⟩ := Int.eq_ofNat_of_zero_le ht
    obtain ⟨n, rfl⟩ := Int.eq_ofNat_of_zero_le hN0
    have V : lastV n ws t on = (((lst (look ws on) t).getD 0 : Nat) : Int) := by unfold lastV; rw [if_pos hp]; rfl
    have E : lastE n ws t on = if lst (look ws on) t = none then 4 else 0 := by unfold lastE; rw [if_neg (by simpa using hp)]; rfl
    replace E := Lib.hid E
    replace V := Lib.hid V
    have P := Lib.hid hp
    have HC := Lib.hid hc
    have htn : t ≤ n := by omega
    clear hp hc
    go_enter Tryd.func31, Tryd.ntmps31
    go_wp2_with fail
    refine (r_part (RAt.new hs _) hw hlen 0 t).mono ?_
    rintro e w1 ⟨rfl, r1⟩
    have c0 := r1.b.n
    have c1 := r1.b.s
    have R1 := Lib.hid r1
    rw [P.out]
    clear r1
    go_wp2_with fail
    refine (r_list R1.out hw HC.out).mono ?_
    rintro e w2 ⟨v, g, c, rfl, hv, hcl, r2⟩
    have R2 := Lib.hid r2
    have HCL := Lib.hid hcl
    have HV := Lib.hid hv
    clear r2 hcl hv
    go_wp2
    go_loop [10] (fun i => ∃ j : Nat, j ≤ t ∧ i = .int .i64 ((j : Int) - 1) ∧ Hid (∀ i, j ≤ i → i < t → look ws on i = false)) (fun i => (intOf i + 1).toNat)
    case atStart => exact ⟨t, Nat.le_refl _, by go_num, Lib.hid (fun i h1 h2 => by omega)⟩
    case round =>
      obtain ⟨j, hj, rfl, HP⟩ := hrel
      cases j with
      | zero =>
        have S : Hid (lst (look ws on) t = none) := Lib.hid (lst_none fun i hi => HP.out i (by omega) hi)
        rw [show ((0 : Nat) : Int) - 1 = -1 from rfl]
        go_wp2
        go_ret2
        exact ⟨ret_two (by rw [V.out, S.out]; rfl) (by rw [E.out, S.out]; rfl), R2.out.k⟩
      | succ j =>
        rw [show ((j + 1 : Nat) : Int) - 1 = (j : Int) by omega]
        have hck := HCL.out j (by omega)
        obtain rfl := HV.out (by omega)
        have hkn : (j : Int) < (n : Int) := by omega
        by_cases hp : look ws on j = true
        · have hb : (bat ws j == on) = true := by have := hp; unfold look at this; exact this
          have S : Hid (lst (look ws on) t = some j) := Lib.hid (lst_some hp (by omega) (fun i h1 h2 => HP.out i (by omega) h2))
          clear hp
          go_wp2
          go_ret2
          exact ⟨ret_two (by rw [V.out, S.out]; rfl) (by rw [E.out, S.out]; rfl), R2.out.k⟩
        · have hb : (bat ws j == on) = false := by have := hp; unfold look at this; simpa using this
          have HF := Lib.hid hp
          clear hp
          go_wp2
          go_round
          case rel => exact ⟨j, by omega, by go_num, Lib.hid (fun i h1 h2 => by
            by_cases hij : i = j
            · rw [hij]; simpa using HF.out
            · exact HP.out i (by omega) h2)⟩
          case measure => simp [intOf]
  · have hpb := bne0_true hp
    have V : lastV N ws t on = 0 := by unfold lastV; rw [if_neg hp]
    have E : lastE N ws t on = prt N ws 0 t := by unfold lastE; rw [if_pos hp]
    replace E := Lib.hid E
    replace V := Lib.hid V
    clear hp
    go_enter Tryd.func31, Tryd.ntmps31
    go_wp2_with fail
    refine (r_part (RAt.new hs _) hw hlen 0 t).mono ?_
    rintro e w1 ⟨rfl, r1⟩
    have R1 := Lib.hid r1
    clear r1
    go_wp2
    go_ret2
    exact ⟨ret_two V.out.symm E.out.symm, R1.out.k⟩

set_option maxRecDepth 100000 in
set_option maxHeartbeats 1600000 in
theorem rGet_ok (N i : Int) (a : Option Addr) (len cap : Nat) (ws : List Nat) (w : World) (hs : SlK .u64 w a len ws) (hw : ∀ x ∈ ws, x < 18446744073709551616) (hlen : len ≤ 9223372036854775807) :
    Calls Tryd.prog 35 #[.agg #[.int .i64 N, .slice a len cap], .int .i64 i] w fun e w' => e = .returned (.tuple #[.bool (getV N ws i), .int .i64 (getE N ws i)]) ∧ Below w.heap.size w w' := by
  by_cases hc : chk N ws = 0
  · obtain ⟨hN0, hN, -, -⟩ := chk_zero hc
    obtain ⟨n, rfl⟩ := Int.eq_ofNat_of_zero_le hN0
    have HC := Lib.hid hc
    by_cases hi : i < 0 ∨ (n : Int) ≤ i
    · have E : getE n ws i = 7 := by unfold getE; rw [if_neg (by simpa using hc), if_pos hi]
      have V : getV n ws i = false := by unfold getV; rw [E]; rfl
      replace E := Lib.hid E
      replace V := Lib.hid V
      clear hc
      by_cases h0 : i < 0
      all_goals
        have h1 : ¬ (i < 0) → (n : Int) ≤ i := fun h => by omega
        first | (have h2 := h1 h0; clear h1 hi) | (clear h1 hi)
        go_enter Tryd.func35, Tryd.ntmps35
        go_wp2_with fail
        refine (r_check (RAt.new hs _) hw hlen).mono ?_
        rintro e w1 ⟨rfl, r1⟩
        have c0 := r1.b.n
        have c1 := r1.b.s
        have R1 := Lib.hid r1
        rw [HC.out]
        clear r1
        go_wp2
        go_ret2
        exact ⟨ret_bi V.out.symm E.out.symm, R1.out.k⟩
    · obtain ⟨k, rfl⟩ := Int.eq_ofNat_of_zero_le (by omega : 0 ≤ i)
      have hk : k < n := by omega
      have E : getE n ws k = 0 := by unfold getE; rw [if_neg (by simpa using hc), if_neg hi]
      have V : getV n ws k = bat ws k := by unfold getV; rw [E]; simp
      replace E := Lib.hid E
      replace V := Lib.hid V
      have hkn : (k : Int) < (n : Int) := by omega
      clear hc hi
      go_enter Tryd.func35, Tryd.ntmps35
      go_wp2_with fail
      refine (r_check (RAt.new hs _) hw hlen).mono ?_
      rintro e w1 ⟨rfl, r1⟩
      have c0 := r1.b.n
      have c1 := r1.b.s
      have R1 := Lib.hid r1
      rw [HC.out]
      clear r1
      go_wp2_with fail
      refine (r_list R1.out hw HC.out).mono ?_
      rintro e w2 ⟨v, g, c, rfl, hv, hcl, r2⟩
      have R2 := Lib.hid r2
      have hck := hcl k hk
      obtain rfl := hv (by omega)
      clear r2 hcl hv
      go_wp2
      go_ret2
      exact ⟨ret_bi V.out.symm E.out.symm, R2.out.k⟩
  · have hcb := bne0_true hc
    have E : getE N ws i = chk N ws := by unfold getE; rw [if_pos hc]
    have V : getV N ws i = false := by unfold getV; rw [E, if_neg hc]
    replace E := Lib.hid E
    replace V := Lib.hid V
    clear hc
    go_enter Tryd.func35, Tryd.ntmps35
    go_wp2_with fail
    refine (r_check (RAt.new hs _) hw hlen).mono ?_
    rintro e w1 ⟨rfl, r1⟩
    have R1 := Lib.hid r1
    clear r1
    go_wp2
    go_ret2
    exact ⟨ret_bi V.out.symm E.out.symm, R1.out.k⟩
end Go.Proofs.YtikdgnfcckenmaaDoor
