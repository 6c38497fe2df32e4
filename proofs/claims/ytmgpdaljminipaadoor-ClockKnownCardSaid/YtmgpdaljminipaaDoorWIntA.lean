/- Words: whole and Int of the reference. -/
import Derived.Test.YtmgpdaljminipaaDoorWDig
namespace Go.Proofs.YtmgpdaljminipaaDoor
open Go.RowKit Go.Sort Go.Joins
attribute [local go_sem] cell_grow frozen_grow size_grow

/-- where the digits begin -/
def frm (l : List UInt8) : Nat := if ngB l then 1 else 0
theorem absL_drop (l : List UInt8) : absL l = l.drop (frm l) := by
  unfold absL frm
  cases ngB l
  · rfl
  · cases l <;> rfl
theorem frm_le {l : List UInt8} (h : l ≠ []) : frm l ≤ l.length := by
  have := List.length_pos_iff.2 h
  unfold frm; split <;> omega
theorem all_drop {l : List UInt8} {f : Nat} : (l.drop f).all dgC = true ↔ ∀ j, f ≤ j → j < l.length → dgC (bt l j) = true := by
  rw [List.all_eq_true]
  constructor
  · intro h j h1 h2
    refine h _ ?_
    rw [List.mem_iff_getElem?]
    exact ⟨j - f, by rw [List.getElem?_drop, show f + (j - f) = j by omega]; exact bt_at h2⟩
  · intro h x hx
    obtain ⟨i, hi⟩ := List.mem_iff_getElem?.1 hx
    rw [List.getElem?_drop] at hi
    have hlt : f + i < l.length := by
      rcases Nat.lt_or_ge (f + i) l.length with h' | h'
      · exact h'
      · rw [List.getElem?_eq_none h'] at hi; cases hi
    rw [bt_at hlt] at hi
    cases hi
    exact h _ (by omega) hlt
theorem whole_no {l : List UInt8} {j : Nat} (h1 : frm l ≤ j) (h2 : j < l.length) (h : dgC (bt l j) = false) : wholeB l = false := by
  cases hw : wholeB l
  · rfl
  · unfold wholeB at hw
    simp only [Bool.and_eq_true] at hw
    have := natB_dig hw.1
    rw [absL_drop] at this
    have := all_drop.1 this j h1 h2
    rw [h] at this; cases this
theorem whole_short {l : List UInt8} (h : l.length ≤ frm l) : wholeB l = false := by
  unfold wholeB
  rw [absL_drop, List.drop_eq_nil_of_le h]
  rfl
theorem drop_head {l : List UInt8} {f : Nat} (h : f < l.length) : (l.drop f).head? = some (bt l f) := by
  rw [List.head?_drop, bt_at h]
theorem whole_zero {l : List UInt8} (h1 : frm l + 1 < l.length) (h : bt l (frm l) = 48) : wholeB l = false := by
  cases hw : wholeB l
  · rfl
  · unfold wholeB at hw
    simp only [Bool.and_eq_true] at hw
    have h2 := natB_head hw.1 (by rw [absL_drop, List.length_drop]; omega)
    rw [absL_drop, drop_head (by omega), h] at h2
    exact absurd rfl h2
/-- the rest: all digits, not too short, no 0 in front -/
theorem whole_rest {l : List UInt8} (h0 : frm l < l.length) (h1 : ∀ j, frm l ≤ j → j < l.length → dgC (bt l j) = true) (h2 : l.length = frm l + 1 ∨ bt l (frm l) ≠ 48) : wholeB l = decide (l ≠ [45, 48]) := by
  have hn : natB (absL l) = true := by
    rw [absL_drop]
    refine natB_of (all_drop.2 h1) ?_ ?_
    · intro e
      have := congrArg List.length e
      rw [List.length_drop, List.length_nil] at this
      omega
    · rcases h2 with h2 | h2
      · left; rw [List.length_drop]; omega
      · right; rw [drop_head h0]; intro e; exact h2 (Option.some.inj e)
  unfold wholeB
  rw [hn, Bool.true_and, Bool.eq_iff_iff]
  simp only [Bool.not_eq_true', Bool.and_eq_false_iff, decide_eq_false_iff_not, decide_eq_true_eq]
  constructor
  · rintro h rfl
    rcases h with h | h
    · cases h
    · exact h rfl
  · intro h
    cases hg : ngB l
    · exact .inl rfl
    · right
      intro e
      cases l with
      | nil => cases hg
      | cons c r =>
        rw [ngB_cons] at hg
        have hc : c = 45 := UInt8.toNat_inj.1 (by simpa using hg)
        subst hc
        have : absL (45 :: r) = r := rfl
        rw [this] at e
        exact h (by rw [e])
theorem frm_of {l : List UInt8} (h : 0 < l.length) : frm l = if (bt l 0).toNat = 45 then 1 else 0 := by
  cases l with
  | nil => simp at h
  | cons c r =>
    unfold frm
    rw [ngB_cons]
    show _ = if c.toNat = 45 then 1 else 0
    by_cases e : c.toNat = 45
    · rw [decide_eq_true e, if_pos rfl, if_pos e]
    · rw [decide_eq_false e, if_neg (by simp), if_neg e]
theorem c48 {c : UInt8} : ((c.toNat : Int) == 48) = decide (c = 48) := by
  rw [Bool.eq_iff_iff]
  simp only [beq_iff_eq, decide_eq_true_eq]
  constructor
  · intro h; exact UInt8.toNat_inj.1 (by show c.toNat = 48; omega)
  · rintro rfl; rfl
theorem str_ne (a : ByteArray) (l : List UInt8) {L : List UInt8} (h : a.data.toList = L) : (a.toList == l) = decide (L = l) := by
  rw [Lib.toList_data, h, Bool.eq_iff_iff]; simp
set_option maxRecDepth 100000 in
set_option maxHeartbeats 1000000 in
theorem rwhole_ok (s : ByteArray) (L : List UInt8) (hL : s.data.toList = L) (hs : s.size ≤ 9223372036854775806) (w : World) : Calls Tryd.prog 50 #[.string s] w fun e w' => e = .returned (.bool (wholeB L)) ∧ w = w' := by
  have hlen := len_of hL
  by_cases h0 : 0 < s.size
  · have d0 : decide ((0 : Int) < (s.size : Int)) = true := decide_eq_true (by omega)
    have hb0 := bt_get hL h0
    have hf := frm_of (l := L) (by omega)
    have hlt0 := (bt L 0).toNat_lt
    obtain ⟨f, hF⟩ : ∃ f, frm L = f := ⟨_, rfl⟩
    rw [hF] at hf
    have HF := Lib.hid hF
    obtain ⟨c0, hc0⟩ : ∃ c, (bt L 0).toNat = c := ⟨_, rfl⟩
    rw [hc0] at hb0 hf hlt0
    clear hc0 hF
    have hfw : ((c0 : Int) == 45) = true ∧ f = 1 ∨ ((c0 : Int) == 45) = false ∧ f = 0 := by
      by_cases e : c0 = 45
      · left; rw [if_pos e] at hf; exact ⟨by rw [e]; rfl, hf⟩
      · right; rw [if_neg e] at hf; exact ⟨by simp; omega, hf⟩
    clear hf
    have HL := Lib.hid hL
    clear hL
    rcases hfw with ⟨e0, rfl⟩ | ⟨e0, rfl⟩
    all_goals
      go_enter Tryd.func50, Tryd.ntmps50
      go_wp2
      clear hb0 e0 hlt0 d0
      go_loop [4] (fun i => ∃ k : Nat, i = .int .i64 k ∧ frm L ≤ k ∧ k ≤ s.size ∧ Hid (∀ j, frm L ≤ j → j < k → dgC (bt L j) = true)) (fun i => s.size - (intOf i).toNat)
      case atStart => exact ⟨frm L, by rw [HF.out]; go_num, Nat.le_refl _, by rw [HF.out]; omega, Lib.hid (fun j hj => by omega)⟩
      case round =>
        obtain ⟨k, rfl, hk0, hk, HA⟩ := hrel
        by_cases hlt : k < s.size
        · have hb := bt_get HL.out hlt
          have HD := Lib.hid (wrdig_ok (bt L k))
          have hb2 := (bt L k).toNat_lt
          obtain ⟨c, hc⟩ : ∃ c, bt L k = c := ⟨_, rfl⟩
          rw [hc] at hb hb2 HD
          have HC := Lib.hid hc
          obtain ⟨r, hr⟩ : ∃ r, dgC c = r := ⟨_, rfl⟩
          rw [hr] at HD
          have HR := Lib.hid hr
          clear hr hc
          cases r
          · go_wp2_with (go_at_call 51; refine (HD.out _).mono ?_; rintro e w1 ⟨rfl, rfl⟩)
            go_ret
            exact ⟨ret_bool (whole_no hk0 (by omega) (by rw [HC.out, HR.out])).symm, rfl⟩
          · go_wp2_with (go_at_call 51; refine (HD.out _).mono ?_; rintro e w1 ⟨rfl, rfl⟩)
            go_round
            case rel => exact ⟨k + 1, by go_num, by omega, by omega, Lib.hid (fun j hj1 hj2 => by
              by_cases ej : j = k
              · rw [ej, HC.out, HR.out]
              · exact HA.out j hj1 (by omega))⟩
            case measure => simp [intOf]; omega
        · obtain rfl : k = s.size := by omega
          by_cases hsz : frm L < s.size
          · have hb := bt_get HL.out hsz
            have hb2 := (bt L (frm L)).toNat_lt
            have hz := c48 (c := bt L (frm L))
            have HZ := Lib.hid (whole_zero (l := L))
            have HW := Lib.hid (whole_rest (l := L) (by omega) (fun j h1 h2 => HA.out j h1 (by omega)))
            have hst := str_ne s [45, 48] HL.out
            obtain ⟨g, hg⟩ : ∃ g, frm L = g := ⟨_, rfl⟩
            have hg2 := HF.out
            rw [hg] at hg2
            subst hg2
            have hsz2 := hsz
            rw [hg] at hsz2
            have hb3 := bt_get HL.out hsz2
            obtain ⟨c, hc⟩ : ∃ c, bt L (frm L) = c := ⟨_, rfl⟩
            rw [hg] at hb2 hz HZ HW hk0 hsz hc
            rw [hc] at hb3 hb2 hz HZ HW
            clear HF HA hg hb hc
            go_wp2
            all_goals go_ret
            all_goals refine ⟨ret_bool ?_, rfl⟩
            all_goals first
              | exact (HZ.out (by simp_all <;> omega) (by assumption)).symm
              | (rw [HW.out (by first | (right; assumption) | (left; simp_all <;> omega))]; clear HW HZ; simp_all; done)
          · have HZ := Lib.hid (whole_short (l := L) (by omega))
            have h1 : s.size = frm L := by omega
            rw [HF.out] at h1
            first
              | (exfalso; omega)
              | (have d1 : ((s.size : Int) == 1) = true := by rw [h1]; rfl
                 clear HF HA hlen
                 go_wp2
                 all_goals go_ret
                 all_goals exact ⟨ret_bool HZ.out.symm, rfl⟩)
  · have h1 : s.size = 0 := by omega
    have HZ := Lib.hid (whole_short (l := L) (by omega))
    have d0 : decide ((0 : Int) < (s.size : Int)) = false := decide_eq_false (by omega)
    have d1 : ((s.size : Int) == 0) = true := by rw [h1]; rfl
    clear hL
    go_enter Tryd.func50, Tryd.ntmps50
    go_wp2
    go_loop [4] (fun i => i = .int .i64 0) (fun i => 0)
    case atStart => rfl
    case round =>
      subst hrel
      have d2 : decide ((0 : Int) < (s.size : Int)) = false := decide_eq_false (by omega)
      go_wp2
      all_goals go_ret
      all_goals exact ⟨ret_bool HZ.out.symm, rfl⟩
/-- the wrapped sum while the digits are read -/
theorem wrap_step (n : Int) (v d : Int) (h : n = IntKind.i64.wrap v) : IntKind.i64.wrap (IntKind.i64.wrap (10 * n) + d) = IntKind.i64.wrap (10 * v + d) := by
  subst h
  rw [IntWalk.i64_left, IntWalk.i64_left, IntWalk.i64_left, IntWalk.i64_left]
  unfold RowKit.wrap64
  omega
theorem wrap64_bd (n : Int) : -9223372036854775808 ≤ IntKind.i64.wrap n ∧ IntKind.i64.wrap n ≤ 9223372036854775807 := by
  rw [IntWalk.i64_left]
  unfold RowKit.wrap64
  omega
theorem take_succ' {l : List UInt8} {k : Nat} (h : k < l.length) : l.take (k + 1) = l.take k ++ [bt l k] := by
  rw [List.take_add_one, bt_at h]; rfl
theorem ngB_take {l : List UInt8} {k : Nat} : ngB (l.take (k + 1)) = ngB l := by
  cases l with
  | nil => rfl
  | cons c r => rw [List.take_succ_cons, ngB_cons, ngB_cons]
theorem valZ_pos {l : List UInt8} (h : ngB l = false) : valZ l = valN 0 l := by
  unfold valZ absL; rw [h]; rfl
/-- the number of the first bytes, one byte further -/
theorem valZ_step {l : List UInt8} {k : Nat} (h : k < l.length) (hd : dgC (bt l k) = true) : valZ (l.take (k + 1)) = 10 * valZ (l.take k) + (if ngB l = true then -(((bt l k).toNat : Int) - 48) else ((bt l k).toNat : Int) - 48) := by
  have hc := dgC_yes.1 hd
  cases hg : ngB l
  · rw [if_neg (by simp)]
    have h1 : ngB (l.take (k + 1)) = false := by rw [ngB_take, hg]
    have h2 : ngB (l.take k) = false := by
      cases k with
      | zero => rfl
      | succ k => rw [ngB_take, hg]
    rw [valZ_pos h1, valZ_pos h2, take_succ' h, valN_snoc]
    omega
  · rw [if_pos rfl]
    cases l with
    | nil => cases hg
    | cons c r =>
      have hc45 : c = 45 := by
        rw [ngB_cons] at hg
        exact UInt8.toNat_inj.1 (by simpa using hg)
      subst hc45
      cases k with
      | zero =>
        have e45 : bt (45 :: r) 0 = 45 := rfl
        rw [e45] at hd
        cases hd
      | succ j =>
        have hb : bt (45 :: r) (j + 1) = bt r j := rfl
        rw [hb] at hc ⊢
        rw [List.take_succ_cons, List.take_succ_cons]
        show -(valN 0 (r.take (j + 1)) : Int) = 10 * -(valN 0 (r.take j) : Int) + _
        rw [take_succ' (by simpa using h), valN_snoc]
        omega
theorem valZ_skip {l : List UInt8} {k : Nat} (h : k < l.length) (hw : wholeB l = true) (hd : dgC (bt l k) = false) : valZ (l.take (k + 1)) = valZ (l.take k) := by
  rcases Nat.lt_or_ge k (frm l) with h1 | h1
  · have hg : ngB l = true := by
      cases hg : ngB l
      · unfold frm at h1; rw [hg] at h1; simp at h1
      · rfl
    have h0 : k = 0 := by unfold frm at h1; rw [hg] at h1; simpa using h1
    subst h0
    cases l with
    | nil => cases hg
    | cons c r =>
      have hc45 : c = 45 := by
        rw [ngB_cons] at hg
        exact UInt8.toNat_inj.1 (by simpa using hg)
      subst hc45
      rfl
  · rw [whole_no h1 h hd] at hw; cases hw
theorem wrap64_in' {n v : Int} (h : n = RowKit.wrap64 v) (h0 : -9223372036854775808 ≤ v) (h1 : v ≤ 9223372036854775807) : n = v := by
  subst h; unfold RowKit.wrap64; omega
theorem wrap64_rng {n v : Int} (h : n = RowKit.wrap64 v) : -9223372036854775808 ≤ n ∧ n ≤ 9223372036854775807 := by
  subst h; unfold RowKit.wrap64; omega
theorem wrap64_step {n v d : Int} (h : n = RowKit.wrap64 v) : RowKit.wrap64 (RowKit.wrap64 (10 * n) + d) = RowKit.wrap64 (10 * v + d) := by
  subst h; unfold RowKit.wrap64; omega
theorem str_ab (a b : ByteArray) {A B : List UInt8} (h : a.data.toList = A) (k : b.data.toList = B) : (a.toList == b.toList) = decide (A = B) := by
  rw [Lib.toList_data, Lib.toList_data, h, k, Bool.eq_iff_iff]; simp
theorem c45 {l : List UInt8} (h : 0 < l.length) : (((bt l 0).toNat : Int) == 45) = ngB l := by
  cases l with
  | nil => simp at h
  | cons c r =>
    rw [ngB_cons, show bt (c :: r) 0 = c from rfl, Bool.eq_iff_iff]
    simp only [beq_iff_eq, decide_eq_true_eq]
    omega
set_option maxRecDepth 100000 in
set_option maxHeartbeats 1000000 in
theorem rint_ok (s : ByteArray) (L : List UInt8) (hL : s.data.toList = L) (hs : s.size ≤ 9223372036854775806) (lo hi : Int) (hlo0 : -9223372036854775808 ≤ lo) (hhi0 : hi ≤ 9223372036854775807) (w : World) : Calls Tryd.prog 33 #[.string s, .int .i64 lo, .int .i64 hi] w fun e w' => e = .returned (.tuple #[.int .i64 (intV L lo hi), .int .i64 (intE L lo hi)]) ∧ Below w.heap.size w w' := by
  have hlen := len_of hL
  by_cases hlo : hi < lo
  · have d1 : decide (hi < lo) = true := decide_eq_true hlo
    have HE := Lib.hid (intE_arg (l := L) hlo)
    clear hL
    go_enter Tryd.func33, Tryd.ntmps33
    go_wp2
    go_ret2
    exact ⟨ret_two (intV_no (by rw [HE.out]; decide)).symm HE.out.symm, Below.refl _ _⟩
  · have d1 : decide (hi < lo) = false := decide_eq_false hlo
    have HW := Lib.hid (rwhole_ok s L hL hs)
    cases hw : wholeB L
    · rw [hw] at HW
      have HE := Lib.hid (intE_form (l := L) (lo := lo) (hi := hi) (by omega) hw)
      clear hL hw
      go_enter Tryd.func33, Tryd.ntmps33
      go_wp2_with (go_at_call 50; refine (HW.out _).mono ?_; rintro e w1 ⟨rfl, rfl⟩)
      go_ret2
      exact ⟨ret_two (intV_no (by rw [HE.out]; decide)).symm HE.out.symm, Below.refl _ _⟩
    · rw [hw] at HW
      have HE := Lib.hid (intE_whole (l := L) (lo := lo) (hi := hi) (by omega) hw)
      by_cases h20 : 20 < s.size
      · have HV := Lib.hid (val_long hw (by omega))
        have d2 : decide ((20 : Int) < (s.size : Int)) = true := decide_eq_true (by omega)
        clear hL hw
        go_enter Tryd.func33, Tryd.ntmps33
        go_wp2_with (go_at_call 50; refine (HW.out _).mono ?_; rintro e w1 ⟨rfl, rfl⟩)
        go_ret2
        have h7 : intE L lo hi = 7 := by
          rw [HE.out, if_neg]
          intro h
          exact HV.out ⟨by omega, by omega⟩
        exact ⟨ret_two (intV_no (by rw [h7]; decide)).symm h7.symm, Below.refl _ _⟩
      · have d2 : decide ((20 : Int) < (s.size : Int)) = false := decide_eq_false (by omega)
        have hpos : 0 < s.size := by
          rcases Nat.eq_zero_or_pos s.size with h | h
          · exfalso
            have : L = [] := List.length_eq_zero_iff.1 (by omega)
            subst this
            cases hw
          · exact h
        have hb0 := bt_get hL hpos
        have hb02 := (bt L 0).toNat_lt
        have h45 := c45 (l := L) (by omega)
        have HI := Lib.hid (itoa_inj hw)
        have HST := Lib.hid (fun k h => valZ_step (l := L) (k := k) h)
        have HSK := Lib.hid (fun k h => valZ_skip (l := L) (k := k) h hw)
        obtain ⟨c0, hc0⟩ : ∃ c, (bt L 0).toNat = c := ⟨_, rfl⟩
        rw [hc0] at hb0 hb02 h45
        obtain ⟨g, hg⟩ : ∃ g, ngB L = g := ⟨_, rfl⟩
        rw [hg] at h45 HST
        have HL := Lib.hid hL
        clear hL hw hg hc0
        go_enter Tryd.func33, Tryd.ntmps33
        go_wp2_with (go_at_call 50; refine (HW.out _).mono ?_; rintro e w1 ⟨rfl, rfl⟩)
        clear HW
        go_loop [8, 9, 10] (fun N i _ => ∃ (k : Nat) (n : Int), N = .int .i64 n ∧ i = .int .i64 k ∧ k ≤ s.size ∧ Hid (n = RowKit.wrap64 (valZ (L.take k)))) (fun _ i _ => s.size - (intOf i).toNat)
        case atStart => exact ⟨0, 0, rfl, rfl, Nat.zero_le _, Lib.hid (by rw [List.take_zero]; decide +kernel)⟩
        case round =>
          obtain ⟨k, n, rfl, rfl, hk, HA⟩ := hrel
          by_cases hlt : k < s.size
          · have hb := bt_get HL.out hlt
            have HD := Lib.hid (wrdig_ok (bt L k))
            have hb2 := (bt L k).toNat_lt
            have HT := Lib.hid (HST.out k (by omega))
            have HK := Lib.hid (HSK.out k (by omega))
            have hyes := dgC_yes (c := bt L k)
            obtain ⟨c, hc⟩ : ∃ c, bt L k = c := ⟨_, rfl⟩
            rw [hc] at hb hb2 HD HT HK hyes
            obtain ⟨r, hr⟩ : ∃ r, dgC c = r := ⟨_, rfl⟩
            rw [hr] at HD HT HK hyes
            clear hr hc
            cases r
            · clear hyes
              go_wp2_with (go_at_call 51; refine (HD.out _).mono ?_; rintro e w1 ⟨rfl, rfl⟩)
              go_round
              case rel => exact ⟨k + 1, n, rfl, by go_num, by omega, Lib.hid (by rw [HK.out trivial]; exact HA.out)⟩
              case measure => simp [intOf]; omega
            · have hyes2 := hyes.1 rfl
              clear hyes
              obtain ⟨m, hm⟩ : ∃ m, c.toNat = m := ⟨_, rfl⟩
              have hz := HT.out rfl
              rw [hm] at hb hb2 hyes2 hz HD
              obtain ⟨y1, y2⟩ := hyes2
              have hx1 : IntKind.u8.wrap ((m : Int) - 48) = (m : Int) - 48 := IntWalk.u8_in _ (by omega)
              have hx2 : IntKind.i64.wrap ((m : Int) - 48) = (m : Int) - 48 := IntWalk.i64_in _ (by omega)
              have hx3 : IntKind.i64.wrap (-((m : Int) - 48)) = -((m : Int) - 48) := IntWalk.i64_in _ (by omega)
              clear hm
              cases g
              · rw [if_neg (by simp)] at hz
                have HZ := Lib.hid hz
                clear hz HT HK
                go_wp2_with fail
                refine (HD.out _).mono ?_
                rintro e w1 ⟨rfl, rfl⟩
                clear HD
                go_wp2_with fail
                go_round
                case rel => exact ⟨k + 1, _, rfl, by go_num, by omega, Lib.hid (by rw [HZ.out]; exact wrap64_step HA.out)⟩
                case measure => simp [intOf]; omega
              · rw [if_pos rfl] at hz
                have HZ := Lib.hid hz
                clear hz HT HK
                go_wp2_with fail
                refine (HD.out _).mono ?_
                rintro e w1 ⟨rfl, rfl⟩
                clear HD
                go_wp2_with fail
                go_round
                case rel => exact ⟨k + 1, _, rfl, by go_num, by omega, Lib.hid (by rw [HZ.out]; exact wrap64_step HA.out)⟩
                case measure => simp [intOf]; omega
          · obtain rfl : k = s.size := by omega
            have hA := HA.out
            rw [show L.take s.size = L by rw [← hlen, List.take_length]] at hA
            obtain ⟨n0, n1⟩ := wrap64_rng hA
            have HN := Lib.hid (fun W => rdig_ok n W n0 n1)
            have hne : (Lib.itoa n == s.toList) = decide (Lib.itoa n = L) := by rw [Lib.toList_data, HL.out, Bool.eq_iff_iff]; simp
            have hne2 : Lib.itoa n = s.toList ↔ Lib.itoa n = L := by rw [Lib.toList_data, HL.out]
            by_cases hfit : -9223372036854775808 ≤ valZ L ∧ valZ L ≤ 9223372036854775807
            · have hn := wrap64_in' hA hfit.1 hfit.2
              rw [decide_eq_true ((HI.out n).2 hn)] at hne
              have hne2 := hne2.2 ((HI.out n).2 hn)
              rw [← hn] at HE
              have hV := intV_ok (l := L) (lo := lo) (hi := hi)
              rw [← hn] at hV
              have HV := Lib.hid hV
              clear hV hA hn HI HST HSK HA hb0 h45
              go_wp2_with (go_at_call 29; refine (HN.out _).mono ?_; rintro e w1 ⟨rfl, b1⟩)
              all_goals go_ret2
              all_goals
                have hE := HE.out
                first
                  | (rw [if_pos (by omega)] at hE; exact ⟨ret_two (HV.out hE).symm hE.symm, b1⟩)
                  | (rw [if_neg (by omega)] at hE; exact ⟨ret_two (intV_no (by rw [hE]; decide)).symm hE.symm, b1⟩)
            · have hnn : ¬ Lib.itoa n = L := fun e => by have := (HI.out n).1 e; omega
              rw [decide_eq_false hnn] at hne
              have hne2 : ¬ Lib.itoa n = s.toList := fun e => hnn (hne2.1 e)
              have h7 : intE L lo hi = 7 := by
                rw [HE.out, if_neg]
                intro h
                exact hfit ⟨by omega, by omega⟩
              have H7 := Lib.hid h7
              clear h7 hA HI HST HSK HA hb0 h45 HE hfit hnn
              go_wp2_with (go_at_call 29; refine (HN.out _).mono ?_; rintro e w1 ⟨rfl, b1⟩)
              go_ret2
              exact ⟨ret_two (intV_no (by rw [H7.out]; decide)).symm H7.out.symm, b1⟩
end Go.Proofs.YtmgpdaljminipaaDoor
