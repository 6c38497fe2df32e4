/- Words: Text, right, Quote and Unquote of the program. | Leaving a function in which ranges over functions stood in a loop: as many marks as there were ranges. No program. | Words: Split of the program. -/
import Derived.Test.YtkklmljannclmaaDoorWZ2
import Derived.Test.YtkklmljannclmaaDoorWZ5
import Derived.Laws.OwnMore
namespace Go.Proofs.YtkklmljannclmaaDoor
open Go.RowKit Go.Sort Go.Joins Go.Shelf
attribute [local go_sem] cell_grow frozen_grow size_grow

set_option maxRecDepth 100000 in
set_option maxHeartbeats 1000000 in
theorem wprinted_ok (s : ByteArray) (L : List UInt8) (hL : s.data.toList = L) (hs : s.size ≤ 9223372036854775806) (m : Nat) (_ : m < 256) (w : World) : Calls Tryd.prog 63 #[.string s, .int .u8 (m : Int)] w fun e w' => e = .returned (.bool (prB m L)) ∧ w = w' := by
  have hlen := len_of hL
  have HL := Lib.hid hL
  clear hL
  go_enter Tryd.func63, Tryd.ntmps63
  go_wp2
  go_loop [8] (fun i => ∃ k : Nat, i = .int .i64 k ∧ k ≤ s.size ∧ Hid (∀ j, j < k → m ≤ (bt L j).toNat ∧ (bt L j).toNat ≤ 126)) (fun i => s.size - (intOf i).toNat)
  case atStart => exact ⟨0, rfl, Nat.zero_le _, Lib.hid (fun j hj => by omega)⟩
  case round =>
    obtain ⟨k, rfl, hk, HA⟩ := hrel
    by_cases hlt : k < s.size
    · have hb := bt_get HL.out hlt
      have hb2 := (bt L k).toNat_lt
      have HN := Lib.hid (fun h => prB_no (m := m) (l := L) (j := k) (by omega) h)
      obtain ⟨c, hc⟩ : ∃ c, (bt L k).toNat = c := ⟨_, rfl⟩
      rw [hc] at hb hb2 HN
      have HC := Lib.hid hc
      clear hc
      by_cases h1 : c < m
      · have d1 : decide ((c : Int) < (m : Int)) = true := decide_eq_true (by omega)
        go_wp2
        all_goals go_ret
        all_goals exact ⟨ret_bool (HN.out (by omega)).symm, rfl⟩
      · have d1 : decide ((c : Int) < (m : Int)) = false := decide_eq_false (by omega)
        by_cases h2 : 126 < c
        · have d2 : decide ((126 : Int) < (c : Int)) = true := decide_eq_true (by omega)
          go_wp2
          all_goals go_ret
          all_goals exact ⟨ret_bool (HN.out (by omega)).symm, rfl⟩
        · have d2 : decide ((126 : Int) < (c : Int)) = false := decide_eq_false (by omega)
          go_wp2
          go_round
          case rel => exact ⟨k + 1, by go_num, by omega, Lib.hid (fun j hj => by
            by_cases ej : j = k
            · rw [ej, HC.out]; omega
            · exact HA.out j (by omega))⟩
          case measure => simp [intOf]; omega
    · obtain rfl : k = s.size := by omega
      have HT := Lib.hid (prB_all.2 (fun j hj => HA.out j (by omega)) : prB m L = true)
      go_wp2
      go_ret
      exact ⟨ret_bool HT.out.symm, rfl⟩
set_option maxRecDepth 100000 in
theorem wtext_ok (s : ByteArray) (L : List UInt8) (hL : s.data.toList = L) (hs : s.size ≤ 9223372036854775806) (w : World) : Calls Tryd.prog 33 #[.string s] w fun e w' => e = .returned (.bool (txB L)) ∧ w = w' := by
  have hlen := len_of hL
  have HP := Lib.hid (wprinted_ok s L hL hs 32 (by decide))
  by_cases h : s.size ≤ 200
  · have d0 : decide ((s.size : Int) ≤ 200) = true := decide_eq_true (by omega)
    have HX : Hid (txB L = prB 32 L) := Lib.hid (by unfold txB; rw [decide_eq_true (show L.length ≤ 200 by omega), Bool.and_true])
    obtain ⟨r, hr⟩ : ∃ r, prB 32 L = r := ⟨_, rfl⟩
    rw [hr] at HP HX
    clear hL
    go_enter Tryd.func33, Tryd.ntmps33
    go_wp2_with fail
    refine (HP.out _).mono ?_
    rintro e w1 ⟨rfl, hw⟩
    subst hw
    go_wp2_with fail
    go_ret
    exact ⟨ret_bool HX.out.symm, rfl⟩
  · have d0 : decide ((s.size : Int) ≤ 200) = false := decide_eq_false (by omega)
    have HX : Hid (txB L = false) := Lib.hid (by unfold txB; rw [decide_eq_false (show ¬ L.length ≤ 200 by omega), Bool.and_false])
    clear hL HP
    go_enter Tryd.func33, Tryd.ntmps33
    go_wp2_with fail
    go_ret
    exact ⟨ret_bool HX.out.symm, rfl⟩
/-- an unquoted field, as the program says it -/
theorem rtB_prog (l : List UInt8) : rtB l = (decide (l ≠ []) && (decide (l.length ≤ 200) && (prB 33 l && decide ((34 : UInt8) ∉ l)))) := by
  rw [Bool.eq_iff_iff, rtB_yes]
  simp only [Bool.and_eq_true, decide_eq_true_eq]
  constructor
  · rintro ⟨h0, ⟨h1, h2⟩, h3⟩
    obtain ⟨h4, h5⟩ := txB_yes.1 h3
    refine ⟨h0, h5, ?_, h2⟩
    rw [prB_all] at h4 ⊢
    intro j hj
    have hm : bt l j ∈ l := by rw [List.mem_iff_getElem?]; exact ⟨j, bt_at hj⟩
    have h6 : (bt l j).toNat ≠ 32 := fun e => h1 (by rw [← show bt l j = 32 from UInt8.toNat_inj.1 e]; exact hm)
    have := h4 j hj
    omega
  · rintro ⟨h0, h5, h4, h2⟩
    refine ⟨h0, ⟨fun hm => ?_, h2⟩, txB_yes.2 ⟨?_, h5⟩⟩
    · obtain ⟨i, hi⟩ := List.mem_iff_getElem?.1 hm
      have hlt : i < l.length := by
        rcases Nat.lt_or_ge i l.length with h' | h'
        · exact h'
        · rw [List.getElem?_eq_none h'] at hi; cases hi
      rw [bt_at hlt] at hi
      have := prB_all.1 h4 i hlt
      rw [Option.some.inj hi] at this
      exact absurd this.1 (by decide)
    · rw [prB_all] at h4 ⊢
      intro j hj
      have := h4 j hj
      omega
theorem ixb_mem (c : UInt8) (l : List UInt8) : decide (0 ≤ Lib.indexByte l c) = decide (c ∈ l) := by
  rw [← Lib.contains_iff_indexByte, Bool.eq_iff_iff]; simp
set_option maxRecDepth 100000 in
set_option maxHeartbeats 1000000 in
theorem wright_ok (b : Bool) (s : ByteArray) (L : List UInt8) (hL : s.data.toList = L) (hs : s.size ≤ 9223372036854775806) (w : World) : Calls Tryd.prog 43 #[.agg #[.bool b, .string s]] w fun e w' => e = .returned (.bool (flB (b, L))) ∧ Below w.heap.size w w' := by
  have hlen := len_of hL
  have HT := Lib.hid (wtext_ok s L hL hs)
  have HP := Lib.hid (wprinted_ok s L hL hs 33 (by decide))
  have hc := Tryd.strings_Contains_one s 34
  rw [hL, ixb_mem] at hc
  have HC := Lib.hid hc
  have HB := Lib.hid (below_box0 w (.cells #[.bool b, .string s] 36))
  have k0 : (w.alloc (.cells #[.bool b, .string s] 36)).cell? ⟨w.heap.size, 0, none⟩ = some (.bool b) := by rw [cell_of_block (heap_alloc_new w _)]; rfl
  have k1 : (w.alloc (.cells #[.bool b, .string s] 36)).cell? ⟨w.heap.size, 1, none⟩ = some (.string s) := by rw [cell_of_block (heap_alloc_new w _)]; rfl
  cases b
  · have HR : Hid (flB (false, L) = (decide (L ≠ []) && (decide (L.length ≤ 200) && (prB 33 L && decide ((34 : UInt8) ∉ L))))) := Lib.hid (rtB_prog L)
    have hne : (s.toList != []) = decide (L ≠ []) := by
      have := empty_nil hL
      rw [bne, this, Bool.eq_iff_iff]; simp
    have hne2 : (s.toList = []) = (L = []) := by rw [Lib.toList_data, hL]
    obtain ⟨F, hF⟩ : ∃ F, flB (false, L) = F := ⟨_, rfl⟩
    rw [hF] at HR ⊢
    by_cases h0 : L = []
    · have h1 : (s.toList != []) = false := by rw [hne]; simp [h0]
      have h2 : s.toList = [] := hne2.mpr h0
      have HX : Hid (F = false) := Lib.hid (by rw [HR.out, h0]; rfl)
      clear hL hc hne hne2 hF h0
      go_enter Tryd.func43, Tryd.ntmps43
      go_wp2_with fail
      go_ret
      exact ⟨ret_bool HX.out.symm, HB.out⟩
    · have h1 : (s.toList != []) = true := by rw [hne]; simp [h0]
      have h2 : ¬ s.toList = [] := fun e => h0 (hne2.mp e)
      by_cases h3 : s.size ≤ 200
      · have d3 : decide ((s.size : Int) ≤ 200) = true := decide_eq_true (by omega)
        have HX : Hid (F = (prB 33 L && decide ((34 : UInt8) ∉ L))) := Lib.hid (by rw [HR.out, decide_eq_true h0, decide_eq_true (show L.length ≤ 200 by omega)]; rfl)
        obtain ⟨r, hr⟩ : ∃ r, prB 33 L = r := ⟨_, rfl⟩
        obtain ⟨q, hq⟩ : ∃ q, decide ((34 : UInt8) ∈ L) = q := ⟨_, rfl⟩
        have hq2 : decide ((34 : UInt8) ∉ L) = !q := by rw [← hq]; simp
        rw [hr] at HP HX
        rw [hq2] at HX
        rw [hq] at HC
        clear hL hc hne hne2 hF hq hq2 h0 hr
        cases r
        · go_enter Tryd.func43, Tryd.ntmps43
          go_wp2_with fail
          refine (HP.out _).mono ?_
          rintro e w1 ⟨rfl, hw⟩
          subst hw
          go_wp2_with fail
          go_ret
          exact ⟨ret_bool HX.out.symm, HB.out⟩
        · go_enter Tryd.func43, Tryd.ntmps43
          go_wp2_with fail
          refine (HP.out _).mono ?_
          rintro e w1 ⟨rfl, hw⟩
          subst hw
          go_wp2_with fail
          refine (HC.out _).mono ?_
          rintro e w1 ⟨rfl, hw⟩
          subst hw
          go_wp2_with fail
          go_ret
          have h4 : s.toList.isEmpty = false := by cases h : s.toList with | nil => exact absurd h h2 | cons _ _ => rfl
          exact ⟨ret_bool (by rw [HX.out, h4]; rfl), HB.out⟩
      · have d3 : decide ((s.size : Int) ≤ 200) = false := decide_eq_false (by omega)
        have HX : Hid (F = false) := Lib.hid (by rw [HR.out, decide_eq_false (show ¬ L.length ≤ 200 by omega)]; simp)
        clear hL hc hne hne2 hF h0
        go_enter Tryd.func43, Tryd.ntmps43
        go_wp2_with fail
        go_ret
        exact ⟨ret_bool HX.out.symm, HB.out⟩
  · have HR : Hid (flB (true, L) = txB L) := Lib.hid rfl
    obtain ⟨F, hF⟩ : ∃ F, flB (true, L) = F := ⟨_, rfl⟩
    obtain ⟨r, hr⟩ : ∃ r, txB L = r := ⟨_, rfl⟩
    rw [hF, hr] at HR
    rw [hF]
    rw [hr] at HT
    clear hL hc hF hr
    go_enter Tryd.func43, Tryd.ntmps43
    go_wp2_with fail
    refine (HT.out _).mono ?_
    rintro e w1 ⟨rfl, hw⟩
    subst hw
    go_wp2_with fail
    go_ret
    exact ⟨ret_bool HR.out.symm, HB.out⟩
theorem c34 (c : UInt8) : ((c.toNat : Int) != 34) = !decide (c = 34) := by
  rw [Bool.eq_iff_iff]
  simp only [bne_iff_ne, ne_eq, Bool.not_eq_true', decide_eq_false_iff_not]
  refine not_congr ⟨fun h => UInt8.toNat_inj.1 ?_, fun h => by rw [h]; rfl⟩
  rw [show (34 : UInt8).toNat = 34 from rfl]; omega
theorem rpq_len (n : Nat) : ∀ l : List UInt8, l.length ≤ n → (rpq l).length ≤ l.length := by
  induction n with
  | zero =>
    intro l h
    have : l = [] := List.length_eq_zero_iff.1 (by omega)
    subst this
    rw [rpq]; exact Nat.le_refl _
  | succ n ih =>
    intro l h
    match l, h with
    | [], _ => rw [rpq]; exact Nat.le_refl _
    | [c], _ => rw [rpq]; exact Nat.le_refl _
    | c :: d :: r, h =>
      rw [rpq]
      simp only [List.length_cons] at h ⊢
      split
      · have := ih r (by omega); simp only [List.length_cons]; omega
      · have := ih (d :: r) (by simp only [List.length_cons]; omega); simp only [List.length_cons] at this ⊢; omega
/-- what Quote answers -/
def qtE (l : List UInt8) : Int := if txB l = true then 0 else 2
def qtV (l : List UInt8) : List UInt8 := if txB l = true then qtL l else []
set_option maxRecDepth 100000 in
set_option maxHeartbeats 1000000 in
theorem wquote_ok (s : ByteArray) (L : List UInt8) (hL : s.data.toList = L) (hs : s.size ≤ 4294967280) (w : World) (hM : ML w) :
    Calls Tryd.prog 23 #[.string s] w fun e w' => ∃ S : ByteArray, e = .returned (.tuple #[.string S, .int .i64 (qtE L)]) ∧ S.data.toList = qtV L ∧ Below w.heap.size w w' := by
  have hlen := len_of hL
  have HT := Lib.hid (wtext_ok s L hL (by omega))
  cases hr : txB L
  · have HE : Hid (qtE L = 2) := Lib.hid (by unfold qtE; rw [hr]; rfl)
    have HV : Hid (qtV L = []) := Lib.hid (by unfold qtV; rw [hr]; rfl)
    rw [hr] at HT
    clear hL hr hM
    go_enter Tryd.func23, Tryd.ntmps23
    go_wp2_with fail
    refine (HT.out _).mono ?_
    rintro e w1 ⟨rfl, hw⟩
    subst hw
    go_wp2_with fail
    go_ret2
    exact ⟨⟨#[]⟩, by rw [HE.out]; rfl, by rw [HV.out], Below.refl _ _⟩
  · have HE : Hid (qtE L = 0) := Lib.hid (by unfold qtE; rw [hr]; rfl)
    have HV : Hid (qtV L = qtL L) := Lib.hid (by unfold qtV; rw [hr]; rfl)
    have h200 := (txB_yes.1 hr).2
    obtain ⟨m, hm⟩ := hM
    have hct : Lib.countB s ⟨#[34]⟩ ≤ 200 := by
      rw [cntB_one, hL]
      have := List.count_le_length (a := (34 : UInt8)) (l := L)
      omega
    have hrp := Tryd.strings_ReplaceAll s ⟨#[34]⟩ ⟨#[34, 34]⟩ m w (by omega) hm (Nat.le_refl 1) (by
      rw [show (⟨#[34, 34]⟩ : ByteArray).size = 2 from rfl]; omega)
    rw [hL, show (⟨#[34]⟩ : ByteArray).data.toList = [34] from rfl, show (⟨#[34, 34]⟩ : ByteArray).data.toList = [34, 34] from rfl, dbl_all] at hrp
    have hdl := (dbl_len L).2
    have HR := Lib.hid hrp
    have HQ : Hid (qtL L = 34 :: (dbl L ++ [34])) := Lib.hid rfl
    rw [hr] at HT
    obtain ⟨D, hD⟩ : ∃ D, dbl L = D := ⟨_, rfl⟩
    rw [hD] at HR hdl HQ
    have z1 : (9223372036854775807 < 1 + D.length) = False := by simp; omega
    have z2 : (9223372036854775807 < 1 + D.length + 1) = False := by simp; omega
    clear hL hr hm hrp hct hD
    go_enter Tryd.func23, Tryd.ntmps23
    go_wp2_with fail
    refine (HT.out _).mono ?_
    rintro e w1 ⟨rfl, hw⟩
    subst hw
    go_wp2_with fail
    refine HR.out.mono ?_
    rintro e w2 ⟨rfl, b2⟩
    go_wp2_with fail
    go_ret2
    exact ⟨_, by rw [HE.out]; rfl, by rw [HV.out, HQ.out]; simp, b2⟩
/-- what Unquote does, by the quotation of what it reads -/
theorem unq_by {l : List UInt8} (_ : quB l = true) : (txB (rpq (inn l)) = true → qtL (rpq (inn l)) = l → unq l = some (rpq (inn l))) ∧ (¬ (txB (rpq (inn l)) = true ∧ qtL (rpq (inn l)) = l) → unq l = none) := by
  refine ⟨fun h1 h2 => ?_, fun h1 => ?_⟩
  · have := unq_qt h1
    rw [h2] at this
    exact this
  · cases hu : unq l with
    | none => rfl
    | some u =>
      exfalso
      obtain ⟨h3, h4⟩ := unq_some hu
      apply h1
      have : rpq (inn l) = u := by
        have h5 : inn l = dbl u := by rw [← h4]; exact inn_qt _
        rw [h5, rpq_dbl]
      rw [this]
      exact ⟨h3, h4⟩
theorem unq_bad {l : List UInt8} (h : quB l = false) : unq l = none := by unfold unq; rw [h]; rfl
set_option maxRecDepth 100000 in
set_option maxHeartbeats 1600000 in
theorem wunq_ok (s : ByteArray) (L : List UInt8) (hL : s.data.toList = L) (hs : s.size ≤ 4294967280) (w : World) (hM : ML w) :
    Calls Tryd.prog 25 #[.string s] w fun e w' => ∃ S : ByteArray, e = .returned (.tuple #[.string S, .int .i64 (unqE L)]) ∧ S.data.toList = unqR L ∧ Below w.heap.size w w' := by
  have hlen := len_of hL
  have H6 := Lib.hid (@unq_6 L)
  have H0 := Lib.hid (fun u (h : unq L = some u) => unq_0 h)
  have hq := @quB_bt L
  by_cases h2 : s.size < 2
  · have d0 : decide ((s.size : Int) < 2) = true := decide_eq_true (by omega)
    have hb : quB L = false := by unfold quB; rw [decide_eq_false (show ¬ 2 ≤ L.length by omega)]; rfl
    have HX := Lib.hid (H6.out (unq_bad hb))
    clear hL hM hq hb
    go_enter Tryd.func25, Tryd.ntmps25
    go_wp2_with fail
    go_ret2
    exact ⟨⟨#[]⟩, by rw [HX.out.1]; rfl, by rw [HX.out.2], Below.refl _ _⟩
  · have d0 : decide ((s.size : Int) < 2) = false := decide_eq_false (by omega)
    have hq := hq (by omega)
    rw [hlen] at hq
    have hp : 0 < s.size := by omega
    have hp1 : s.size - 1 < s.size := by omega
    have hb0 := bt_get hL hp
    have hb1 := bt_get hL hp1
    have hsz : (s.size : Int) - 1 = ((s.size - 1 : Nat) : Int) := by omega
    have hex : (s.extract 1 (s.size - 1)).data.toList = inn L := by
      rw [Lib.extract_data, hL]
      unfold inn
      rw [List.dropLast_eq_take, List.length_tail, hlen, ← List.drop_one]
    have hexs : (s.extract 1 (s.size - 1)).size = s.size - 2 := by rw [ByteArray.size_extract]; omega
    obtain ⟨B0, hB0⟩ : ∃ x, bt L 0 = x := ⟨_, rfl⟩
    obtain ⟨B1, hB1⟩ : ∃ x, bt L (s.size - 1) = x := ⟨_, rfl⟩
    rw [hB0] at hb0 hq
    rw [hB1] at hb1 hq
    have hc0 := c34 B0
    have hc1 := c34 B1
    clear hB0 hB1
    by_cases hgood : B0 = 34 ∧ B1 = 34
    · obtain ⟨g0, g1⟩ := hgood
      rw [decide_eq_true g0] at hc0
      rw [decide_eq_true g1] at hc1
      have hqb : quB L = true := by rw [hq, decide_eq_true g0, decide_eq_true g1]; rfl
      obtain ⟨hy, hn⟩ := unq_by hqb
      have hM2 := fun W (h : Below w.heap.size w W) => hM.below h
      obtain ⟨m, hm⟩ := hM
      have hct : Lib.countB (s.extract 1 (s.size - 1)) ⟨#[34, 34]⟩ ≤ 4294967281 := by
        have := Lib.countB_le ⟨#[34, 34]⟩ (show 1 ≤ 2 by decide) _ (s.extract 1 (s.size - 1)) (Nat.le_refl _)
        omega
      have hrp := Tryd.strings_ReplaceAll (s.extract 1 (s.size - 1)) ⟨#[34, 34]⟩ ⟨#[34]⟩ m w (by rw [hexs]; omega) hm (show 1 ≤ 2 by decide) (by
        rw [hexs, show (⟨#[34]⟩ : ByteArray).size = 1 from rfl]; omega)
      rw [hex, show (⟨#[34]⟩ : ByteArray).data.toList = [34] from rfl, show (⟨#[34, 34]⟩ : ByteArray).data.toList = [34, 34] from rfl, rpq_all] at hrp
      obtain ⟨T, hT⟩ : ∃ T, rpq (inn L) = T := ⟨_, rfl⟩
      rw [hT] at hrp hy hn
      have hTl : T.length ≤ 4294967280 := by
        have := rpq_len _ (inn L) (Nat.le_refl _)
        rw [hT] at this
        have h3 : (inn L).length = s.size - 2 := by rw [← hex, Array.length_toList]; exact hexs
        omega
      have HRP := Lib.hid hrp
      have HY := Lib.hid hy
      have HN := Lib.hid hn
      have HQT := Lib.hid (fun W (h : ML W) => wquote_ok ⟨T.toArray⟩ T (by simp) (show T.toArray.size ≤ _ by simpa using hTl) W h)
      have HM2 := Lib.hid hM2
      have HL := Lib.hid hL
      clear hL hm hq hqb hy hn hM2 hct hrp hT g0 g1 hex
      go_enter Tryd.func25, Tryd.ntmps25
      go_wp2_with fail
      refine HRP.out.mono ?_
      rintro e w1 ⟨rfl, b1⟩
      have HB1 := Lib.hid b1
      clear b1
      go_wp2_with fail
      refine (HQT.out _ (HM2.out _ HB1.out)).mono ?_
      rintro e w2 ⟨Q, rfl, hQ, b2⟩
      have HB2 := Lib.hid (below_tr HB1.out b2)
      have HQ := Lib.hid hQ
      clear b2 hQ
      cases hx : txB T
      · have hE : qtE T = 2 := by unfold qtE; rw [hx]; rfl
        have HX := Lib.hid (H6.out (HN.out (fun h => by rw [hx] at h; cases h.1)))
        rw [hE]
        clear hE hx
        go_wp2_with fail
        go_ret2
        exact ⟨⟨#[]⟩, by rw [HX.out.1]; rfl, by rw [HX.out.2], HB2.out⟩
      · have hE : qtE T = 0 := by unfold qtE; rw [hx]; rfl
        have hV : qtV T = qtL T := by unfold qtV; rw [hx]; rfl
        rw [hE]
        by_cases hc : qtL T = L
        · have hs2 : Q.toList = s.toList := by rw [Lib.toList_data, Lib.toList_data, HQ.out, HL.out, hV, hc]
          have hs3 : (Q.toList != s.toList) = false := by rw [hs2]; simp
          have HX := Lib.hid (H0.out T (HY.out hx hc))
          clear hE hV hx hc
          go_wp2_with fail
          go_ret2
          exact ⟨⟨T.toArray⟩, by rw [HX.out.1]; rfl, by rw [HX.out.2], HB2.out⟩
        · have hs2 : ¬ Q.toList = s.toList := fun e => by rw [Lib.toList_data, Lib.toList_data, HQ.out, HL.out, hV] at e; exact hc e
          have hs3 : (Q.toList == s.toList) = false := beq_eq_false_iff_ne.2 hs2
          have HX := Lib.hid (H6.out (HN.out (fun h => hc h.2)))
          clear hE hV hx hc
          go_wp2_with fail
          go_ret2
          exact ⟨⟨#[]⟩, by rw [HX.out.1]; rfl, by rw [HX.out.2], HB2.out⟩
    · have hd : decide (B0 = 34) = false ∨ (decide (B0 = 34) = true ∧ decide (B1 = 34) = false) := by
        by_cases g : B0 = 34
        · right; exact ⟨decide_eq_true g, decide_eq_false (fun h => hgood ⟨g, h⟩)⟩
        · left; exact decide_eq_false g
      have hb : quB L = false := by
        rw [hq]
        rcases hd with g | ⟨g, g'⟩
        · rw [g]; rfl
        · rw [g']; simp
      have HX := Lib.hid (H6.out (unq_bad hb))
      clear hL hM hq hb hgood
      rcases hd with g | ⟨g, g'⟩
      · rw [g] at hc0
        go_enter Tryd.func25, Tryd.ntmps25
        go_wp2_with fail
        go_ret2
        exact ⟨⟨#[]⟩, by rw [HX.out.1]; rfl, by rw [HX.out.2], Below.refl _ _⟩
      · rw [g] at hc0
        rw [g'] at hc1
        go_enter Tryd.func25, Tryd.ntmps25
        go_wp2_with fail
        go_ret2
        exact ⟨⟨#[]⟩, by rw [HX.out.1]; rfl, by rw [HX.out.2], Below.refl _ _⟩
end Go.Proofs.YtkklmljannclmaaDoor

namespace Go.Proofs.YtkklmljannclmaaDoor
open Go.RowKit
/-- the marks that ranges over functions leave -/
def mks (ds : List Nat) : List Deferred := ds.map fun D => { target := .collected D, args := #[] }
theorem mks_cons (D : Nat) (ds : List Nat) : mks (D :: ds) = { target := .collected D, args := #[] } :: mks ds := rfl
/-- the blocks of the marks lie there -/
def MksAt (B : Nat) (ds : List Nat) (W : World) : Prop := ds.Nodup ∧ ∀ D ∈ ds, B ≤ D ∧ W.heap[D]? = some (.deferred (some []))
theorem MksAt.nil (B : Nat) (W : World) : MksAt B [] W := ⟨List.nodup_nil, fun _ h => by cases h⟩
theorem MksAt.cons {B D : Nat} {ds : List Nat} {W : World} (h : MksAt B ds W) (hD : B ≤ D) (hn : D ∉ ds) (hk : W.heap[D]? = some (.deferred (some []))) : MksAt B (D :: ds) W :=
  ⟨List.nodup_cons.2 ⟨hn, h.1⟩, fun E hE => by
    rcases List.mem_cons.1 hE with rfl | hE
    · exact ⟨hD, hk⟩
    · exact h.2 E hE⟩
theorem MksAt.keep {B : Nat} {ds : List Nat} {W W' : World} (h : MksAt B ds W) (hk : ∀ D ∈ ds, W.heap[D]? = some (.deferred (some [])) → W'.heap[D]? = some (.deferred (some []))) : MksAt B ds W' :=
  ⟨h.1, fun D hD => ⟨(h.2 D hD).1, hk D hD (h.2 D hD).2⟩⟩
theorem MksAt.below {B : Nat} {ds : List Nat} {W W' : World} (h : MksAt B ds W) (hb : Below W.heap.size W W') : MksAt B ds W' :=
  h.keep fun _ _ hk => (hb.block _ (Array.getElem?_eq_some_iff.1 hk).1).trans hk
theorem MksAt.lt {B : Nat} {ds : List Nat} {W : World} (h : MksAt B ds W) {D : Nat} (hD : D ∈ ds) : D < W.heap.size := (Array.getElem?_eq_some_iff.1 (h.2 D hD).2).1
/-- all marks are taken, one by one; J is what is kept -/
theorem leaves_marks {F : Fence} {n : Nat} {P : Program} {fn : Func} {tmps : Array Value} {R : Ending → World → Prop} {B : Nat} (J : World → Prop)
    (hJ : ∀ W D, B ≤ D → W.heap[D]? = some (.deferred (some [])) → J W → J (W.putObj D (.deferred none)))
    (hend : ∀ W, J W → LeavesIn F n P fn tmps R [] .returning W) :
    ∀ (ds : List Nat) (W : World), MksAt B ds W → J W → LeavesInM F n P fn tmps R (mks ds) .returning W
  | [], W, _, h => hend W h
  | D :: ds, W, hM, h => by
    have hD := hM.2 D (by simp)
    refine ⟨by simp, .inl ⟨D, _, rfl, run_takeDeferred hD.2, ?_⟩⟩
    refine leaves_marks J hJ hend ds _ ?_ (hJ W D hD.1 hD.2 h)
    have hn := List.nodup_cons.1 hM.1
    refine ⟨hn.2, fun E hE => ⟨(hM.2 E (by simp [hE])).1, ?_⟩⟩
    have hne : D ≠ E := fun e => hn.1 (by rw [e]; exact hE)
    exact (World.putObj_heap_other (Ne.symm hne)).trans (hM.2 E (by simp [hE])).2
end Go.Proofs.YtkklmljannclmaaDoor

namespace Go.Proofs.YtkklmljannclmaaDoor
open Go.RowKit Go.Sort Go.Joins Go.Shelf
attribute [local go_sem] cell_grow frozen_grow size_grow Oper.semAt_some

theorem use_k {F : Fence} {m : Nat} {P : Program} {y : Code} {Q : Exit → Act → World → Prop} {K : Act → World → Prop} {a : Act} {w : World} (hK : ∀ a w, y.wpIn F m P Q a w → K a w) (h : y.wpIn F m P Q a w) : K a w := hK a w h
theorem grown_of_below {W W' : World} (h : Below W.heap.size W W') : W.grownBy W' none := ⟨h.os, h.tape, h.output, h.size, fun k hk _ => h.block k hk⟩
theorem keeps_below {W W' : World} (hb : Below W.heap.size W W') (B : Nat) : KeepsFrom B W W' := (KeepsOthers.of_grownBy (grown_of_below hb) (fun j o h => by cases h)).from B
theorem own_stays {W W' : World} {base : Nat} {e : TypeId} {size : Nat} {v : Value} {n : Nat} {xs : List Value} {row : Option Nat} (h : W.ownsRow base e size v n xs) (hg : W.grownBy W' row) (hr : ∀ r, row = some r → ∃ o : Obj, W.heap[r]? = some o ∧ o.isCells = false) : W'.ownsRow base e size v n xs := by
  refine h.kept hg ?_
  rcases h.2 with ⟨rfl, _⟩ | ⟨g, cap, cur, rfl, _, hgb, _⟩
  · exact .inl rfl
  · refine .inr fun e' => ?_
    obtain ⟨o, ho, hc⟩ := hr g e'.symm
    rw [hgb] at ho; cases ho; cases hc
theorem blk_kept {W W' : World} {row : Option Nat} {k : Nat} {cs : Array Value} {t : TypeId} (h : W.heap[k]? = some (.cells cs t (0, 0))) (hg : W.grownBy W' row) (hr : ∀ r, row = some r → ∃ o : Obj, W.heap[r]? = some o ∧ o.isCells = false) : W'.heap[k]? = some (.cells cs t (0, 0)) :=
  (grownBy_keeps_cells hg hr h rfl).trans h
/-- a row lies still where another type's box turns -/
theorem own_type {W W' : World} {base : Nat} {e : TypeId} {size : Nat} {v : Value} {n : Nat} {xs : List Value} {q : Nat} {cs : Array Value} {t : TypeId} (h : W.ownsRow base e size v n xs) (hg : W.grownBy W' (some q)) (hq : W.heap[q]? = some (.cells cs t (0, 0))) (ht : t ≠ e) : W'.ownsRow base e size v n xs := by
  refine h.kept hg ?_
  rcases h.2 with ⟨rfl, _⟩ | ⟨g, cap, cur, rfl, _, hgb, _⟩
  · exact .inl rfl
  · refine .inr fun e' => ?_
    obtain rfl : g = q := Option.some.inj e'
    rw [hgb] at hq
    cases hq; exact ht rfl
theorem own_neT {W : World} {base : Nat} {e : TypeId} {size : Nat} {v : Value} {n : Nat} {xs : List Value} {q : Nat} {cs : Array Value} {t : TypeId} (h : W.ownsRow base e size v n xs) (hq : W.heap[q]? = some (.cells cs t (0, 0))) (ht : t ≠ e) : v.ownBlock ≠ some q := by
  intro e'
  rcases h.2 with ⟨rfl, _⟩ | ⟨g, cap, cur, rfl, _, hgb, _⟩
  · cases e'
  · obtain rfl : g = q := Option.some.inj e'
    rw [hgb] at hq
    cases hq; exact ht rfl
theorem own_cells {W : World} {base : Nat} {e : TypeId} {size : Nat} {v : Value} {n : Nat} {xs : List Value} (h : W.ownsRow base e size v n xs) : ∀ (j : Nat) (o : Obj), v.ownBlock = some j → W.heap[j]? = some o → ∃ cs, o = .cells cs e (0, 0) := by
  intro j o hj ho
  rcases h.2 with ⟨rfl, _⟩ | ⟨g, cap, cur, rfl, _, hgb, _⟩
  · simp [Value.ownBlock] at hj
  · have : g = j := by simpa [Value.ownBlock] using hj
    subst this; rw [hgb] at ho; cases ho; exact ⟨_, rfl⟩
theorem info_wfield : (Tryd.prog.info? 36).map (fun i => (i.zero, i.size, i.bytes)) = some (some (.agg #[.bool false, .string ⟨#[]⟩]), 2, 24) := by kernel_rfl
/-- what lies in memory while the pieces come -/
structure SI (w : World) (z : Nat) (s : ByteArray) (X : List (Bool × ByteArray)) (W : World) : Prop where
  k : Below w.heap.size w W
  r2 : W.heap[w.heap.size]? = some (.cells #[.slice none 0 0] 23 (0, 0))
  r3 : W.heap[w.heap.size + 1]? = some (.cells #[.int .i64 0] 24 (0, 0))
  o : ∃ v, W.heap[w.heap.size + 2]? = some (.cells #[v] 23 (0, 0)) ∧ W.ownsRow (w.heap.size + 3) 36 2 v X.length (flc X)
  s : W.heap[z]? = some (.cells #[.string s] 9 (0, 0))
  f : W.heap[z + 2]? = some (.cells #[endsV (z + 1)] 104 (0, 0))
  z3 : w.heap.size + 3 ≤ z
section
variable {w W W' : World} {z : Nat} {s : ByteArray} {X : List (Bool × ByteArray)}
theorem SI.below (h : SI w z s X W) (hb : Below W.heap.size W W') : SI w z s X W' := by
  obtain ⟨v, h1, h2⟩ := h.o
  exact ⟨h.k.trans (hb.mono h.k.size), (hb.block _ (blk_lt h.r2)).trans h.r2, (hb.block _ (blk_lt h.r3)).trans h.r3, ⟨v, (hb.block _ (blk_lt h1)).trans h1, own_below h2 hb⟩, (hb.block _ (blk_lt h.s)).trans h.s, (hb.block _ (blk_lt h.f)).trans h.f, h.z3⟩
theorem SI.kept {row : Option Nat} (h : SI w z s X W) (hg : W.grownBy W' row) (hr : ∀ r, row = some r → z + 3 ≤ r ∧ ∃ o : Obj, W.heap[r]? = some o ∧ o.isCells = false) : SI w z s X W' := by
  obtain ⟨v, h1, h2⟩ := h.o
  have hz := h.z3
  exact ⟨h.k.grown hg h.k.size (fun r e => by have := (hr r e).1; omega), blk_kept h.r2 hg (fun r e => (hr r e).2), blk_kept h.r3 hg (fun r e => (hr r e).2), ⟨v, blk_kept h1 hg (fun r e => (hr r e).2), own_stays h2 hg (fun r e => (hr r e).2)⟩, blk_kept h.s hg (fun r e => (hr r e).2), blk_kept h.f hg (fun r e => (hr r e).2), h.z3⟩
theorem SI.turn (h : SI w z s X W) (ho : OwP (z + 1) 0 W W') : SI w z s X W' := by
  obtain ⟨v, h1, h2⟩ := h.o
  obtain ⟨⟨b, hb⟩, hg⟩ := ho
  have hz := h.z3
  have key : ∀ {k : Nat} {cs : Array Value} {t : TypeId}, k ≠ z + 1 → W.heap[k]? = some (.cells cs t (0, 0)) → W'.heap[k]? = some (.cells cs t (0, 0)) := fun hk hw => (hg.block _ (blk_lt hw) (fun e => hk (Option.some.inj e))).trans hw
  exact ⟨h.k.grown hg h.k.size (fun r e => by cases e; omega), key (by omega) h.r2, key (by omega) h.r3, ⟨v, key (by omega) h1, own_type h2 hg hb (by decide)⟩, key (by omega) h.s, key (by omega) h.f, h.z3⟩
theorem SI.keep (h : SI w z s X W) : KeepP z s W := ⟨by rw [cell_of_block h.s]; rfl, by rw [cell_of_block h.f]; rfl⟩
end
theorem SI.snoc {w W w' : World} {z : Nat} {s : ByteArray} {X : List (Bool × ByteArray)} {v v' : Value} {o : Obj} {x : Bool × ByteArray} (h : SI w z s X W) (hv : W.heap[w.heap.size + 2]? = some (.cells #[v] 23 (0, 0)))
    (ho : W.ownsRow (w.heap.size + 3) 36 2 v X.length (flc X)) (hg : (W.alloc o).grownBy w' v.ownBlock) (hown : w'.ownsRow (w.heap.size + 3) 36 2 v' (X.length + 1) (flc X ++ [.bool x.1, .string x.2])) :
    SI w z s (X ++ [x]) (w'.setCell ⟨w.heap.size + 2, 0, none⟩ v') := by
  have hz := h.z3
  have hA := ho.alloc o
  have key : ∀ {k : Nat} {cs : Array Value} {t : TypeId}, t ≠ 36 → W.heap[k]? = some (.cells cs t (0, 0)) → w'.heap[k]? = some (.cells cs t (0, 0)) := fun ht hk => by
    have hk2 := (Below.heap_alloc W o _ (blk_lt hk)).trans hk
    exact (hg.block _ (blk_lt hk2) (fun e => own_neT hA hk2 ht e.symm)).trans hk2
  have hb := key (by decide) hv
  have hne : v'.ownBlock ≠ some (⟨w.heap.size + 2, 0, none⟩ : Addr).block := fun e => by have := (hown.lt _ e).1; dsimp only at this; omega
  refine ⟨(((h.k.alloc h.k.size o).grown hg (Nat.le_trans h.k.size (by simp)) (fun r e => by have := (hA.lt r e).1; omega))).setCell (p := ⟨w.heap.size + 2, 0, none⟩) (by dsimp only; omega) _, ?_, ?_, ⟨v', (setCell_block hb _).trans (by simp), ?_⟩, ?_, ?_, hz⟩
  · exact (Below.heap_setCell _ _ _ _ (by dsimp only; omega)).trans (key (by decide) h.r2)
  · exact (Below.heap_setCell _ _ _ _ (by dsimp only; omega)).trans (key (by decide) h.r3)
  · rw [flc_snoc, List.length_append, List.length_singleton]
    exact ownsRow_setCell_other hown hne v'
  · exact (Below.heap_setCell _ _ _ _ (by dsimp only; omega)).trans (key (by decide) h.s)
  · exact (Below.heap_setCell _ _ _ _ (by dsimp only; omega)).trans (key (by decide) h.f)
/-- what the loop keeps -/
def SIp (w : World) (z : Nat) (s : ByteArray) (pre : List ByteArray) (W : World) : Prop := ∃ X, fldM (pre.map (·.data.toList)) = some (fls X) ∧ SI w z s X W
/-- where it stops: a piece is no field -/
structure SX (w : World) (L : List UInt8) (W : World) : Prop where
  k : Below w.heap.size w W
  r2 : W.heap[w.heap.size]? = some (.cells #[.slice none 0 0] 23 (0, 0))
  r3 : W.heap[w.heap.size + 1]? = some (.cells #[.int .i64 6] 24 (0, 0))
  n : fldM (pcsL L) = none
theorem fldM_len : ∀ {P : List (List UInt8)} {X : List Fl}, fldM P = some X → X.length = P.length
  | [], X, h => by cases h; rfl
  | p :: P, X, h => by
    rw [fldM] at h
    cases hx : fld1 p with
    | none => rw [hx] at h; cases h
    | some x =>
      rw [hx] at h
      dsimp only at h
      cases hP : fldM P with
      | none => rw [hP] at h; cases h
      | some Y =>
        rw [hP] at h
        cases h
        rw [List.length_cons, List.length_cons, fldM_len hP]
theorem pcs_len : ∀ (n : Nat) (l : List UInt8), (pcs n l).length ≤ n + 1
  | 0, l => by rw [pcs]; exact Nat.le_refl _
  | n + 1, l => by
    rw [pcs]
    split
    · have := pcs_len n (l.drop (cut false l + 1)); rw [List.length_cons]; omega
    · simp
theorem pcs_mem : ∀ (n : Nat) (l p : List UInt8), p ∈ pcs n l → p.length ≤ l.length
  | 0, l, p, h => by
    rw [pcs, List.mem_singleton] at h
    rw [h]; exact Nat.le_refl _
  | n + 1, l, p, h => by
    rw [pcs] at h
    split at h
    · rcases List.mem_cons.1 h with rfl | h
      · rw [List.length_take]; omega
      · have := pcs_mem n _ _ h
        rw [List.length_drop] at this; omega
    · rw [List.mem_singleton] at h
      rw [h]; exact Nat.le_refl _
theorem fls_snoc (X : List (Bool × ByteArray)) (x : Bool × ByteArray) : fls (X ++ [x]) = fls X ++ [(x.1, x.2.data.toList)] := by unfold fls; rw [List.map_append]; rfl
theorem pre_one (l : List UInt8) (c : UInt8) : Lib.hasPrefix l [c] = decide (l.head? = some c) := by
  unfold Lib.hasPrefix
  cases l with
  | nil => rfl
  | cons d r =>
    rw [List.head?_cons, Bool.eq_iff_iff]
    simp only [List.isPrefixOf, Bool.and_true, beq_iff_eq, decide_eq_true_eq, Option.some.injEq]
    exact eq_comm
set_option maxRecDepth 100000 in
set_option maxHeartbeats 6400000 in
theorem wsplit_ok (s : ByteArray) (L : List UInt8) (hL : s.data.toList = L) (hs : s.size ≤ 4611686018427387904) (w : World) (hM : ML w) :
    Calls Tryd.prog 14 #[.string s] w (SplPost w (splR L) (splE L)) := by
  obtain ⟨i0, hi0, hz0, hz1, hz2'⟩ := info_parts info_wfield
  have hlen := len_of hL
  have hb2 : Below w.heap.size w ((w.alloc (.cells #[.slice none 0 0] 23)).alloc (.cells #[.int .i64 0] 24)) := ((Below.refl _ w).alloc (Nat.le_refl _) _).alloc (by simp) _
  have e2 : ((w.alloc (.cells #[.slice none 0 0] 23)).alloc (.cells #[.int .i64 0] 24)).heap[w.heap.size]? = some (.cells #[.slice none 0 0] 23 (0, 0)) := (Below.heap_alloc _ _ _ (by simp)).trans (heap_alloc_new w _)
  have e3 : ((w.alloc (.cells #[.slice none 0 0] 23)).alloc (.cells #[.int .i64 0] 24)).heap[w.heap.size + 1]? = some (.cells #[.int .i64 0] 24 (0, 0)) := by
    have := heap_alloc_new (w.alloc (.cells #[.slice none 0 0] 23)) (.cells #[.int .i64 0] 24)
    rwa [World.size_alloc] at this
  obtain ⟨W0, hW0⟩ : ∃ W, (w.alloc (.cells #[.slice none 0 0] 23)).alloc (.cells #[.int .i64 0] 24) = W := ⟨_, rfl⟩
  have hz : W0.heap.size = w.heap.size + 2 := by rw [← hW0]; simp
  rw [hW0] at hb2 e2 e3
  have HB := Lib.hid hb2
  have H2 := Lib.hid e2
  have H3 := Lib.hid e3
  have HM := Lib.hid hM
  have k2 : W0.cell? ⟨w.heap.size, 0, none⟩ = some (.slice none 0 0) := by rw [cell_of_block e2]; rfl
  have k3 : W0.cell? ⟨w.heap.size + 1, 0, none⟩ = some (.int .i64 0) := by rw [cell_of_block e3]; rfl
  have f2 := unfrozen_of_block e2
  have f3 := unfrozen_of_block e3
  have l3 := blk_lt e3
  by_cases h1 : 4096 < s.size
  · have d1 : decide ((4096 : Int) < (s.size : Int)) = true := decide_eq_true (by omega)
    have HX := Lib.hid (splE_long (l := L) (by omega))
    have c0 : ((W0.setCell ⟨w.heap.size, 0, none⟩ (.slice none 0 0)).setCell ⟨w.heap.size + 1, 0, none⟩ (.int .i64 3)).cell? ⟨w.heap.size, 0, none⟩ = some (.slice none 0 0) := by
      rw [cell_of_block ((Below.heap_setCell _ _ _ _ (show w.heap.size ≠ w.heap.size + 1 by omega)).trans (setCell_block e2 _))]; rfl
    have c1 : ((W0.setCell ⟨w.heap.size, 0, none⟩ (.slice none 0 0)).setCell ⟨w.heap.size + 1, 0, none⟩ (.int .i64 3)).cell? ⟨w.heap.size + 1, 0, none⟩ = some (.int .i64 3) := by
      rw [cell_of_block (setCell_block ((Below.heap_setCell _ _ _ _ (show w.heap.size + 1 ≠ w.heap.size by omega)).trans e3) _)]; rfl
    clear hL hM hb2 e2 e3
    go_enter Tryd.func14, Tryd.ntmps14
    go_wp2
    refine bodyPost_ret (v := .tuple #[.slice none 0 0, .int .i64 3]) (by simp [results, Tryd.results14, go_sem, c0, c1]) rfl ?_
    rw [HX.out.1, HX.out.2]
    exact SplPost.none ((HB.out.setCell (p := ⟨w.heap.size, 0, none⟩) (Nat.le_refl _) _).setCell (p := ⟨w.heap.size + 1, 0, none⟩) (Nat.le_succ _) _)
  · have d1 : decide ((4096 : Int) < (s.size : Int)) = false := decide_eq_false (by omega)
    have hem := empty_nil hL
    by_cases h0 : L = []
    · rw [decide_eq_true h0] at hem
      have HX : Hid (splE L = 0 ∧ splR L = []) := Lib.hid (by rw [h0]; exact splE_ok (l := []) (by simp) splT_nil (by simp))
      have c0 : ((W0.setCell ⟨w.heap.size, 0, none⟩ (.slice none 0 0)).setCell ⟨w.heap.size + 1, 0, none⟩ (.int .i64 0)).cell? ⟨w.heap.size, 0, none⟩ = some (.slice none 0 0) := by
        rw [cell_of_block ((Below.heap_setCell _ _ _ _ (show w.heap.size ≠ w.heap.size + 1 by omega)).trans (setCell_block e2 _))]; rfl
      have c1 : ((W0.setCell ⟨w.heap.size, 0, none⟩ (.slice none 0 0)).setCell ⟨w.heap.size + 1, 0, none⟩ (.int .i64 0)).cell? ⟨w.heap.size + 1, 0, none⟩ = some (.int .i64 0) := by
        rw [cell_of_block (setCell_block ((Below.heap_setCell _ _ _ _ (show w.heap.size + 1 ≠ w.heap.size by omega)).trans e3) _)]; rfl
      clear hL hM hb2 e2 e3
      go_enter Tryd.func14, Tryd.ntmps14
      go_wp2
      refine bodyPost_ret (v := .tuple #[.slice none 0 0, .int .i64 0]) (by simp [results, Tryd.results14, go_sem, c0, c1]) rfl ?_
      rw [HX.out.1, HX.out.2]
      exact SplPost.none ((HB.out.setCell (p := ⟨w.heap.size, 0, none⟩) (Nat.le_refl _) _).setCell (p := ⟨w.heap.size + 1, 0, none⟩) (Nat.le_succ _) _)
    · rw [decide_eq_false h0] at hem
      have HSP := Lib.hid (spl_pcs _ L (Nat.le_refl _) h0)
      have HL := Lib.hid hL
      clear hL hM hb2 e2 e3 h0
      refine (callsIn_wide (n := 6)).1 ?_
      refine callsIn_of_wp_marks Tryd.func14 rfl trivial ?_ rfl
      simp only [Tryd.ntmps14, List.size_toArray, List.length_cons, List.length_nil, Nat.reduceAdd, Nat.reduceSub, Array.replicate_succ, Array.replicate_zero, List.push_toArray, List.append_toArray, List.nil_append, List.cons_append]
      have b0 := below_box0 W0 (.cells #[.slice none 0 0] 23)
      have h4 := heap_alloc_new W0 (.cells #[.slice none 0 0] 23)
      rw [hz] at h4
      have HBa := Lib.hid (below_tr HB.out b0)
      have H2a := Lib.hid ((b0.block _ (blk_lt H2.out)).trans H2.out)
      have H3a := Lib.hid ((b0.block _ (blk_lt H3.out)).trans H3.out)
      have H4a := Lib.hid h4
      have hza : (W0.alloc (.cells #[.slice none 0 0] 23)).heap.size = w.heap.size + 3 := by rw [World.size_alloc, hz]
      have HZa := Lib.hid hza
      clear b0 h4 hza
      gi_wp2_with fail
      refine ⟨trivial, (callsIn_wide.2 (pieces_ok s _)).mono ?_⟩
      rintro e w2 ⟨rfl, ⟨p1, p2, p3, p4, p5⟩⟩
      rw [HZa.out] at p2 p3 p4 p5 ⊢
      have HSI : Hid (SI w (w.heap.size + 3) s [] w2) := Lib.hid ⟨below_tr HBa.out p1, (p1.block _ (blk_lt H2a.out)).trans H2a.out, (p1.block _ (blk_lt H3a.out)).trans H3a.out, ⟨.slice none 0 0, (p1.block _ (blk_lt H4a.out)).trans H4a.out, World.ownsRow_nil _ _ _ _⟩, p3, p5, Nat.le_refl _⟩
      have HQ := Lib.hid p4
      have HW2 := Lib.hid p2
      have hz3 : w.heap.size + 3 ≤ w.heap.size + 3 := Nat.le_refl _
      clear p1 p2 p3 p4 p5 HB H2 H3 HBa H2a H3a H4a HZa k2 k3 f2 f3 l3 hW0 hz
      gi_wp2
      obtain ⟨z, hz⟩ : ∃ z, w.heap.size + 3 = z := ⟨_, rfl⟩
      rw [hz] at HSI HQ HW2 ⊢
      have HZ := Lib.hid hz
      clear hz hz3
      refine wpIn_iterK_box rfl (by omega) (gf := 69) (lb := #[.pointer (some ⟨z, 0, none⟩), .pointer (some ⟨z + 2, 0, none⟩)]) rfl trivial (enters_of Tryd.func69 (by kernel_rfl) rfl)
        (SIp w z s) (pieces_seq _ z s L HL.out hs (SIp w z s) (fun pre W h => h.elim fun X h => h.2.keep) w2 HQ.out)
        (fun h hk ho => (h.2.block _ (Array.getElem?_eq_some_iff.1 hk).1 (fun e => by obtain ⟨b, hb⟩ := h.1; cases e; rw [hb] at hk; cases hk; cases ho)).trans hk) (fun _ h => h) (fun pre X Y h ho => h.elim fun Z h => ⟨Z, h.1, h.2.turn ho⟩)
        (fun h k b hb => k b (h b hb)) (fun W l o o' _ hl ho b hb => (World.putObj_heap_other (fun e => by rw [← e, hb] at hl; cases hl; cases ho)).trans hb) (fun _ => rfl)
        (fun cd xs W => cd = .ret ∧ SX w L W) ?iown ?ixown ⟨[], rfl, HSI.out⟩
        (fun a x _ => { tmps := (a.tmps.setIfInBounds 16 (.string x)).setIfInBounds 5 (.string x), defers := [] })
        (fun _ _ _ => True) (fun _ _ _ _ _ _ h _ _ => h)
        ?assign ?body ?done ?stop
      case iown =>
        rintro pre A B row ⟨X, hX, h⟩ hg hr
        exact ⟨X, hX, h.kept hg (fun r e => by rw [HW2.out] at hr; have := (hr r e).1; exact ⟨by have := HZ.out; omega, (hr r e).2⟩)⟩
      case ixown =>
        rintro cd xs A B row ⟨rfl, h⟩ hg hr
        have h0 : ∀ r, row = some r → w.heap.size ≤ r := fun r e => by rw [HW2.out] at hr; have := (hr r e).1; have := HZ.out; omega
        exact ⟨rfl, h.k.grown hg h.k.size h0, blk_kept h.r2 hg (fun r e => (hr r e).2), blk_kept h.r3 hg (fun r e => (hr r e).2), h.n⟩
      case assign =>
        intro l pre x W K hi hG hK
        simp only [List.setIfInBounds_toArray, List.set_cons_zero, List.set_cons_succ] at hK
        gi_wp2
        exact hK 0 W (KeepsFrom.refl _ _) (fun b h => h) hi trivial
      case body =>
        rintro l pre S Bx W hl ⟨X, hX, hi⟩ _ ⟨R, hR⟩
        obtain ⟨D, hD⟩ : ∃ D, S.data.toList = D := ⟨_, rfl⟩
        rw [hD] at hR
        have hDl := len_of hD
        have hpl : pre.length ≤ 4097 := by
          have h1 := pcs_len L.length L
          have h2 := congrArg List.length hR
          unfold pcsL at h2
          simp only [List.length_append, List.length_map, List.length_cons] at h2
          omega
        have hXl : X.length = pre.length := by
          have := fldM_len hX
          rw [fls_len, List.length_map] at this
          exact this
        have hmem : D ∈ pcsL L := by rw [hR]; simp
        have hDL : S.size ≤ 4096 := by
          have := pcs_mem _ _ _ hmem
          omega
        have hsn := fldM_snoc (pre.map (·.data.toList)) D
        rw [hX] at hsn
        have hbad : fld1 D = none → fldM (pcsL L) = none := fun h => fldM_bad hmem h
        have hHP := Tryd.strings_HasPrefix S ⟨#[34]⟩
        rw [hD, show (⟨#[34]⟩ : ByteArray).data.toList = [34] from rfl, pre_one] at hHP
        have hUQ := fun W h => wunq_ok S D hD (by omega) W h
        have hRT := fun W => wright_ok false S D hD (by omega) W
        have HI := Lib.hid hi
        have HSN := Lib.hid hsn
        have HBAD := Lib.hid hbad
        have HHP := Lib.hid hHP
        have HUQ := Lib.hid hUQ
        have HRT := Lib.hid hRT
        have HD := Lib.hid hD
        have HF : Hid (fld1 D = if D.head? = some 34 then (unq D).map (fun u => (true, u)) else if rtB D then some (false, D) else none) := Lib.hid rfl
        have hz3 := hi.z3
        clear hX hi hR hD hmem hsn hbad hHP hUQ hRT
        simp only [List.setIfInBounds_toArray, List.set_cons_zero, List.set_cons_succ]
        have bx := below_box0 W (.cells #[.bool false, .string S] 36)
        have HXB := Lib.hid (heap_alloc_new W (.cells #[.bool false, .string S] 36))
        have HBW3 := Lib.hid bx
        obtain ⟨w3, hV⟩ : ∃ V, W.alloc (.cells #[.bool false, .string S] 36) = V := ⟨_, rfl⟩
        rw [hV] at HBW3 HXB
        clear bx
        by_cases hq : D.head? = some 34
        · rw [decide_eq_true hq] at HHP
          gi_wp2_with fail
          clear hV
          refine ⟨trivial, (callsIn_wide.2 (HHP.out w3)).mono ?_⟩
          rintro e w3' ⟨rfl, hw3⟩
          subst hw3
          have hmV := HM.out.below (HI.out.below HBW3.out).k
          have HUV := Lib.hid (HUQ.out w3' hmV)
          clear hmV HHP HUQ HRT
          gi_wp2_with fail
          refine ⟨trivial, (callsIn_wide.2 HUV.out).mono ?_⟩
          rintro e w4 ⟨U, rfl, hU, b4⟩
          have HBW4 := Lib.hid (below_tr HBW3.out b4)
          have HX4 := Lib.hid ((b4.block _ (blk_lt HXB.out)).trans HXB.out)
          have HUU := Lib.hid hU
          clear b4 hU HXB HUV HBW3
          cases hu : unq D with
          | none =>
            rw [(unq_6 hu).1]
            have hfn : fld1 D = none := by rw [HF.out, if_pos hq, hu]; rfl
            have HI4 := Lib.hid (HI.out.below HBW4.out)
            have k2 : w4.cell? ⟨w.heap.size, 0, none⟩ = some (.slice none 0 0) := by rw [cell_of_block HI4.out.r2]; rfl
            have k3 : w4.cell? ⟨w.heap.size + 1, 0, none⟩ = some (.int .i64 0) := by rw [cell_of_block HI4.out.r3]; rfl
            have f2 := unfrozen_of_block HI4.out.r2
            have f3 := unfrozen_of_block HI4.out.r3
            have l3 := blk_lt HI4.out.r3
            gi_wp2
            refine ⟨KeepsFrom.trans (keeps_below HBW4.out _) (((KeepsOthers.setCell _ _ _).trans (KeepsOthers.setCell _ _ _)).from _), rfl, ?_⟩
            refine ⟨(HI4.out.k.setCell (p := ⟨w.heap.size, 0, none⟩) (Nat.le_refl _) _).setCell (p := ⟨w.heap.size + 1, 0, none⟩) (Nat.le_succ _) _, ?_, ?_, HBAD.out (hfn)⟩
            · exact (Below.heap_setCell _ _ _ _ (show w.heap.size ≠ w.heap.size + 1 by omega)).trans ((setCell_block HI4.out.r2 _).trans (by simp))
            · exact (setCell_block ((Below.heap_setCell _ _ _ _ (show w.heap.size + 1 ≠ w.heap.size by omega)).trans HI4.out.r3) _).trans (by simp)
          | some u =>
            rw [(unq_0 hu).1]
            have HUD : Hid (U.data.toList = u) := Lib.hid (HUU.out.trans (unq_0 hu).2)
            have HFS : Hid (fld1 D = some (true, u)) := Lib.hid (by rw [HF.out, if_pos hq, hu]; rfl)
            have hul := unq_len hu
            have hUs := len_of HUD.out
            have htx : flB (true, u) = true := (unq_some hu).1
            have HRU := Lib.hid (fun W => wright_ok true U u HUD.out (by omega) W)
            rw [htx] at HRU
            have x0 : w4.cell? ⟨W.heap.size, 0, none⟩ = some (.bool false) := by rw [cell_of_block HX4.out]; rfl
            have x1 : w4.cell? ⟨W.heap.size, 1, none⟩ = some (.string S) := by rw [cell_of_block HX4.out]; rfl
            have fx := unfrozen_of_block HX4.out
            have lx := blk_lt HX4.out
            have HBW5 := Lib.hid ((HBW4.out.setCell (p := ⟨W.heap.size, 0, none⟩) (Nat.le_refl _) (.bool true)).setCell (p := ⟨W.heap.size, 1, none⟩) (Nat.le_refl _) (.string U))
            have HX5 : Hid (((w4.setCell ⟨W.heap.size, 0, none⟩ (.bool true)).setCell ⟨W.heap.size, 1, none⟩ (.string U)).heap[W.heap.size]? = some (.cells #[.bool true, .string U] 36 (0, 0))) := Lib.hid ((setCell_block ((setCell_block HX4.out (.bool true)).trans rfl) _).trans (by simp))
            clear hu htx
            gi_wp2_with fail
            obtain ⟨w5, hw5⟩ : ∃ V, (w4.setCell ⟨W.heap.size, 0, none⟩ (.bool true)).setCell ⟨W.heap.size, 1, none⟩ (.string U) = V := ⟨_, rfl⟩
            rw [hw5] at HBW5 HX5 ⊢
            clear hw5 x0 x1 fx lx HBW4 HX4
            refine ⟨trivial, (callsIn_wide.2 (HRU.out w5)).mono ?_⟩
            rintro e w6 ⟨rfl, b6⟩
            have HBW6 := Lib.hid (below_tr HBW5.out b6)
            have HX6 := Lib.hid ((b6.block _ (blk_lt HX5.out)).trans HX5.out)
            clear b6 HBW5 HX5 HRU
            have HI6 := Lib.hid (HI.out.below HBW6.out)
            obtain ⟨v, hv1, hv2⟩ := HI6.out.o
            have k4 : w6.cell? ⟨w.heap.size + 2, 0, none⟩ = some v := by rw [cell_of_block hv1]; rfl
            have x0 : w6.cell? ⟨W.heap.size, 0, none⟩ = some (.bool true) := by rw [cell_of_block HX6.out]; rfl
            have x1 : w6.cell? ⟨W.heap.size, 1, none⟩ = some (.string U) := by rw [cell_of_block HX6.out]; rfl
            have f4 := unfrozen_of_block hv1
            have l4 := blk_lt hv1
            have lx := blk_lt HX6.out
            have HO := Lib.hid hv2
            have HV1 := Lib.hid hv1
            clear hv1 hv2
            gi_wp2_with (gi_at_builtin; refine wpListIn_append_own _ rfl (.tmp 33) (.tmp 35) 23 rfl (w.heap.size + 3) 36 i0 (.agg #[.bool false, .string ⟨#[]⟩]) 2 24 Tryd.underlying23 hi0 hz0 hz1 hz2' rfl (by decide) _ _ _ rfl (HO.out.alloc _) ⟨w6.heap.size, 0, none⟩ 1 1 [.bool true, .string U] rfl rfl ?c1 ?c2 ?c3 ?c4 ?c5 ?_)
            case c1 => intro j u hu; match j with | 0 => (simp at hu; subst hu; simp [go_sem]) | 1 => (simp at hu; subst hu; simp [go_sem]) | j + 2 => simp at hu
            case c2 => intro u hu; simp at hu; rcases hu with rfl | rfl <;> rfl
            case c3 => unfold maxLen; omega
            case c4 => omega
            case c5 => first | omega | (have := HI6.out.k.size; simp; omega)
            intro v' w9 hown hg _
            obtain ⟨va, vc, rfl⟩ := own_slice hown
            have hsn := HI6.out.snoc (x := (true, U)) HV1.out HO.out hg (by rw [hXl]; exact hown)
            have hkf : KeepsFrom w2.heap.size W w9 := KeepsFrom.trans (KeepsFrom.trans (keeps_below HBW6.out _) ((KeepsOthers.alloc _ _).from _)) ((KeepsOthers.of_grownBy hg (fun j o hj ho => by obtain ⟨cs, rfl⟩ := own_cells (HO.out.alloc _) j o hj ho; rfl)).from _)
            have hkp : KpP (z + 1) W w9 := fun b hb => by
              have h1 := (HBW6.out.block _ (blk_lt hb)).trans hb
              have h2 := (Below.heap_alloc w6 (.cells #[.bool true, .string U] 36) _ (blk_lt h1)).trans h1
              exact (hg.block _ (blk_lt h2) (fun e => own_neT (HO.out.alloc _) h2 (by decide) e.symm)).trans h2
            have hb9 : w9.heap[w.heap.size + 2]? = some (.cells #[v] 23 (0, 0)) := by
              have h2 := (Below.heap_alloc w6 (.cells #[.bool true, .string U] 36) _ (blk_lt HV1.out)).trans HV1.out
              exact (hg.block _ (blk_lt h2) (fun e => own_neT (HO.out.alloc _) h2 (by decide) e.symm)).trans h2
            have k9 : w9.cell? ⟨w.heap.size + 2, 0, none⟩ = some v := by rw [cell_of_block hb9]; rfl
            have f9 := unfrozen_of_block hb9
            have l9 := blk_lt hb9
            have HSN9 := Lib.hid hsn
            have HKF9 := Lib.hid hkf
            have HKP9 := Lib.hid hkp
            clear hown hg hsn hkf hkp hb9 k4 x0 x1 f4 l4 lx
            gi_wp2
            refine ⟨KeepsFrom.trans HKF9.out ((KeepsOthers.setCell _ _ _).from _), fun b hb => (Below.heap_setCell _ _ _ _ (show z + 1 ≠ w.heap.size + 2 by omega)).trans (HKP9.out b hb), X ++ [(true, U)], ?_, HSN9.out⟩
            rw [List.map_append, fls_snoc]
            have := HSN.out
            rw [HFS.out] at this
            rw [show [S].map (fun (x : ByteArray) => x.data.toList) = [D] by rw [← HD.out]; rfl, this]
            rw [show (U).data.toList = u from HUD.out]
            rfl
        · rw [decide_eq_false hq] at HHP
          have x0 : w3.cell? ⟨W.heap.size, 0, none⟩ = some (.bool false) := by rw [cell_of_block HXB.out]; rfl
          have x1 : w3.cell? ⟨W.heap.size, 1, none⟩ = some (.string S) := by rw [cell_of_block HXB.out]; rfl
          gi_wp2_with fail
          clear hV
          refine ⟨trivial, (callsIn_wide.2 (HHP.out w3)).mono ?_⟩
          rintro e w3' ⟨rfl, hw3⟩
          subst hw3
          have hfl : flB (false, D) = rtB D := rfl
          rw [hfl] at HRT
          clear HHP HUQ hfl
          gi_wp2_with fail
          refine ⟨trivial, (callsIn_wide.2 (HRT.out w3')).mono ?_⟩
          rintro e w6 ⟨rfl, b6⟩
          have HBW6 := Lib.hid (below_tr HBW3.out b6)
          have HX6 := Lib.hid ((b6.block _ (blk_lt HXB.out)).trans HXB.out)
          clear b6 HBW3 HXB HRT x0 x1
          cases hr : rtB D
          · have hfn : fld1 D = none := by rw [HF.out, if_neg hq, hr]; rfl
            have HI6 := Lib.hid (HI.out.below HBW6.out)
            have k2 : w6.cell? ⟨w.heap.size, 0, none⟩ = some (.slice none 0 0) := by rw [cell_of_block HI6.out.r2]; rfl
            have k3 : w6.cell? ⟨w.heap.size + 1, 0, none⟩ = some (.int .i64 0) := by rw [cell_of_block HI6.out.r3]; rfl
            have f2 := unfrozen_of_block HI6.out.r2
            have f3 := unfrozen_of_block HI6.out.r3
            have l3 := blk_lt HI6.out.r3
            gi_wp2
            refine ⟨KeepsFrom.trans (keeps_below HBW6.out _) (((KeepsOthers.setCell _ _ _).trans (KeepsOthers.setCell _ _ _)).from _), rfl, ?_⟩
            refine ⟨(HI6.out.k.setCell (p := ⟨w.heap.size, 0, none⟩) (Nat.le_refl _) _).setCell (p := ⟨w.heap.size + 1, 0, none⟩) (Nat.le_succ _) _, ?_, ?_, HBAD.out (hfn)⟩
            · exact (Below.heap_setCell _ _ _ _ (show w.heap.size ≠ w.heap.size + 1 by omega)).trans ((setCell_block HI6.out.r2 _).trans (by simp))
            · exact (setCell_block ((Below.heap_setCell _ _ _ _ (show w.heap.size + 1 ≠ w.heap.size by omega)).trans HI6.out.r3) _).trans (by simp)
          · have HFS : Hid (fld1 D = some (false, D)) := Lib.hid (by rw [HF.out, if_neg hq, hr]; rfl)
            clear hr
            have HI6 := Lib.hid (HI.out.below HBW6.out)
            obtain ⟨v, hv1, hv2⟩ := HI6.out.o
            have k4 : w6.cell? ⟨w.heap.size + 2, 0, none⟩ = some v := by rw [cell_of_block hv1]; rfl
            have x0 : w6.cell? ⟨W.heap.size, 0, none⟩ = some (.bool false) := by rw [cell_of_block HX6.out]; rfl
            have x1 : w6.cell? ⟨W.heap.size, 1, none⟩ = some (.string S) := by rw [cell_of_block HX6.out]; rfl
            have f4 := unfrozen_of_block hv1
            have l4 := blk_lt hv1
            have lx := blk_lt HX6.out
            have HO := Lib.hid hv2
            have HV1 := Lib.hid hv1
            clear hv1 hv2
            gi_wp2_with (gi_at_builtin; refine wpListIn_append_own _ rfl (.tmp 33) (.tmp 35) 23 rfl (w.heap.size + 3) 36 i0 (.agg #[.bool false, .string ⟨#[]⟩]) 2 24 Tryd.underlying23 hi0 hz0 hz1 hz2' rfl (by decide) _ _ _ rfl (HO.out.alloc _) ⟨w6.heap.size, 0, none⟩ 1 1 [.bool false, .string S] rfl rfl ?c1 ?c2 ?c3 ?c4 ?c5 ?_)
            case c1 => intro j u hu; match j with | 0 => (simp at hu; subst hu; simp [go_sem]) | 1 => (simp at hu; subst hu; simp [go_sem]) | j + 2 => simp at hu
            case c2 => intro u hu; simp at hu; rcases hu with rfl | rfl <;> rfl
            case c3 => unfold maxLen; omega
            case c4 => omega
            case c5 => first | omega | (have := HI6.out.k.size; simp; omega)
            intro v' w9 hown hg _
            obtain ⟨va, vc, rfl⟩ := own_slice hown
            have hsn := HI6.out.snoc (x := (false, S)) HV1.out HO.out hg (by rw [hXl]; exact hown)
            have hkf : KeepsFrom w2.heap.size W w9 := KeepsFrom.trans (KeepsFrom.trans (keeps_below HBW6.out _) ((KeepsOthers.alloc _ _).from _)) ((KeepsOthers.of_grownBy hg (fun j o hj ho => by obtain ⟨cs, rfl⟩ := own_cells (HO.out.alloc _) j o hj ho; rfl)).from _)
            have hkp : KpP (z + 1) W w9 := fun b hb => by
              have h1 := (HBW6.out.block _ (blk_lt hb)).trans hb
              have h2 := (Below.heap_alloc w6 (.cells #[.bool false, .string S] 36) _ (blk_lt h1)).trans h1
              exact (hg.block _ (blk_lt h2) (fun e => own_neT (HO.out.alloc _) h2 (by decide) e.symm)).trans h2
            have hb9 : w9.heap[w.heap.size + 2]? = some (.cells #[v] 23 (0, 0)) := by
              have h2 := (Below.heap_alloc w6 (.cells #[.bool false, .string S] 36) _ (blk_lt HV1.out)).trans HV1.out
              exact (hg.block _ (blk_lt h2) (fun e => own_neT (HO.out.alloc _) h2 (by decide) e.symm)).trans h2
            have k9 : w9.cell? ⟨w.heap.size + 2, 0, none⟩ = some v := by rw [cell_of_block hb9]; rfl
            have f9 := unfrozen_of_block hb9
            have l9 := blk_lt hb9
            have HSN9 := Lib.hid hsn
            have HKF9 := Lib.hid hkf
            have HKP9 := Lib.hid hkp
            clear hown hg hsn hkf hkp hb9 k4 x0 x1 f4 l4 lx
            gi_wp2
            refine ⟨KeepsFrom.trans HKF9.out ((KeepsOthers.setCell _ _ _).from _), fun b hb => (Below.heap_setCell _ _ _ _ (show z + 1 ≠ w.heap.size + 2 by omega)).trans (HKP9.out b hb), X ++ [(false, S)], ?_, HSN9.out⟩
            rw [List.map_append, fls_snoc]
            have := HSN.out
            rw [HFS.out] at this
            rw [show [S].map (fun (x : ByteArray) => x.data.toList) = [D] by rw [← HD.out]; rfl, this]
            rw [show (S).data.toList = D from HD.out]
            rfl
      case done =>
        rintro D xs W hD hS2 ⟨X, hX, hi⟩ hK
        have HI := Lib.hid hi
        have HK := Lib.hid hK
        unfold SP at hS2
        rw [← hS2, ← HSP.out] at hX
        have HX := Lib.hid hX
        have hD2 : w.heap.size + 6 ≤ D := by rw [HW2.out] at hD; have := HZ.out; omega
        have hz3 := hi.z3
        have hlx : X.length ≤ 4097 := by
          have h1 := pcs_len L.length L
          rw [HSP.out] at hX
          have h2 := fldM_len hX
          unfold pcsL at h2
          rw [fls_len] at h2
          omega
        obtain ⟨v, hv1, hv2⟩ := hi.o
        obtain ⟨va, vc, rfl⟩ := own_slice hv2
        have HV1 := Lib.hid hv1
        have HO := Lib.hid hv2
        have k2 : W.cell? ⟨w.heap.size, 0, none⟩ = some (.slice none 0 0) := by rw [cell_of_block hi.r2]; rfl
        have k3 : W.cell? ⟨w.heap.size + 1, 0, none⟩ = some (.int .i64 0) := by rw [cell_of_block hi.r3]; rfl
        have k4 : W.cell? ⟨w.heap.size + 2, 0, none⟩ = some (.slice va X.length vc) := by rw [cell_of_block hv1]; rfl
        have f2 := unfrozen_of_block hi.r2
        have f3 := unfrozen_of_block hi.r3
        have l4 := blk_lt hv1
        clear hX hi hK hS2 hD hv1 hv2
        (try simp only [Exit.inBlock, Exit.then])
        refine use_k (by assumption) ?_
        refine wpIn_wide.2 ?_
        by_cases h64 : 64 < X.length
        · have d64 : decide ((64 : Int) < (X.length : Int)) = true := decide_eq_true (by omega)
          have hsp := splE_many (l := L) (by omega) HX.out (by rw [fls_len]; exact h64)
          have HSP2 := Lib.hid hsp
          clear hsp
          go_wp2
          clear k2 k3 k4 f2 f3 l4 d64
          have e2 : ((W.setCell ⟨w.heap.size, 0, none⟩ (.slice none 0 0)).setCell ⟨w.heap.size + 1, 0, none⟩ (.int .i64 3)).heap[w.heap.size]? = some (.cells #[.slice none 0 0] 23 (0, 0)) := (Below.heap_setCell _ _ _ _ (show w.heap.size ≠ w.heap.size + 1 by omega)).trans ((setCell_block HI.out.r2 _).trans (by simp))
          have e3 : ((W.setCell ⟨w.heap.size, 0, none⟩ (.slice none 0 0)).setCell ⟨w.heap.size + 1, 0, none⟩ (.int .i64 3)).heap[w.heap.size + 1]? = some (.cells #[.int .i64 3] 24 (0, 0)) := (setCell_block ((Below.heap_setCell _ _ _ _ (show w.heap.size + 1 ≠ w.heap.size by omega)).trans HI.out.r3) _).trans (by simp)
          have ed : ((W.setCell ⟨w.heap.size, 0, none⟩ (.slice none 0 0)).setCell ⟨w.heap.size + 1, 0, none⟩ (.int .i64 3)).heap[D]? = some (.deferred (some [])) := (Below.heap_setCell _ _ _ _ (show D ≠ w.heap.size + 1 by omega)).trans ((Below.heap_setCell _ _ _ _ (show D ≠ w.heap.size by omega)).trans HK.out)
          have hb5 := (HI.out.k.setCell (p := ⟨w.heap.size, 0, none⟩) (Nat.le_refl _) (.slice none 0 0)).setCell (p := ⟨w.heap.size + 1, 0, none⟩) (Nat.le_succ _) (.int .i64 3)
          have n2 : (Value.slice va X.length vc).ownBlock ≠ some (⟨w.heap.size, 0, none⟩ : Addr).block := own_neT HO.out HI.out.r2 (by decide)
          have n3 : (Value.slice va X.length vc).ownBlock ≠ some (⟨w.heap.size + 1, 0, none⟩ : Addr).block := own_neT HO.out HI.out.r3 (by decide)
          have ho5 := ownsRow_setCell_other (ownsRow_setCell_other HO.out n2 (.slice none 0 0)) n3 (.int .i64 3)
          obtain ⟨W5, hW5⟩ : ∃ V, ((W.setCell ⟨w.heap.size, 0, none⟩ (.slice none 0 0)).setCell ⟨w.heap.size + 1, 0, none⟩ (.int .i64 3)) = V := ⟨_, rfl⟩
          rw [hW5] at e2 e3 ed hb5 ho5 ⊢
          clear hW5
          refine ⟨by simp, .inl ⟨D, _, rfl, run_takeDeferred ed, ?_⟩⟩
          have o2 : (W5.putObj D (.deferred none)).heap[w.heap.size]? = _ := (World.putObj_heap_other (show w.heap.size ≠ D by omega)).trans e2
          have o3 : (W5.putObj D (.deferred none)).heap[w.heap.size + 1]? = _ := (World.putObj_heap_other (show w.heap.size + 1 ≠ D by omega)).trans e3
          have c0 : (W5.putObj D (.deferred none)).cell? ⟨w.heap.size, 0, none⟩ = some (.slice none 0 0) := by rw [cell_of_block o2]; rfl
          have c1 : (W5.putObj D (.deferred none)).cell? ⟨w.heap.size + 1, 0, none⟩ = some (.int .i64 3) := by rw [cell_of_block o3]; rfl
          have hb6 := hb5.trans (belowK_b (w := w) (Nat.le_refl _) W5 D _ (.deferred none) (by omega) ed rfl rfl)
          have ho6 := own_stays ho5 (grownBy_putObj' W5 D (.deferred none)) (fun r e => by cases e; exact ⟨_, ed, rfl⟩)
          refine ⟨.tuple #[.slice none 0 0, .int .i64 3], ?_, ?_⟩
          · simp [results, Tryd.results14, go_sem, c0, c1]
          · rw [HSP2.out.1, HSP2.out.2]
            exact SplPost.none hb6
        · have d64 : decide ((64 : Int) < (X.length : Int)) = false := decide_eq_false (by omega)
          have hsp := splE_ok (l := L) (by omega) HX.out (by rw [fls_len]; exact h64)
          have HSP2 := Lib.hid hsp
          clear hsp
          go_wp2
          clear k2 k3 k4 f2 f3 l4 d64
          have e2 : ((W.setCell ⟨w.heap.size, 0, none⟩ (.slice va X.length vc)).setCell ⟨w.heap.size + 1, 0, none⟩ (.int .i64 0)).heap[w.heap.size]? = some (.cells #[.slice va X.length vc] 23 (0, 0)) := (Below.heap_setCell _ _ _ _ (show w.heap.size ≠ w.heap.size + 1 by omega)).trans ((setCell_block HI.out.r2 _).trans (by simp))
          have e3 : ((W.setCell ⟨w.heap.size, 0, none⟩ (.slice va X.length vc)).setCell ⟨w.heap.size + 1, 0, none⟩ (.int .i64 0)).heap[w.heap.size + 1]? = some (.cells #[.int .i64 0] 24 (0, 0)) := (setCell_block ((Below.heap_setCell _ _ _ _ (show w.heap.size + 1 ≠ w.heap.size by omega)).trans HI.out.r3) _).trans (by simp)
          have ed : ((W.setCell ⟨w.heap.size, 0, none⟩ (.slice va X.length vc)).setCell ⟨w.heap.size + 1, 0, none⟩ (.int .i64 0)).heap[D]? = some (.deferred (some [])) := (Below.heap_setCell _ _ _ _ (show D ≠ w.heap.size + 1 by omega)).trans ((Below.heap_setCell _ _ _ _ (show D ≠ w.heap.size by omega)).trans HK.out)
          have hb5 := (HI.out.k.setCell (p := ⟨w.heap.size, 0, none⟩) (Nat.le_refl _) (.slice va X.length vc)).setCell (p := ⟨w.heap.size + 1, 0, none⟩) (Nat.le_succ _) (.int .i64 0)
          have n2 : (Value.slice va X.length vc).ownBlock ≠ some (⟨w.heap.size, 0, none⟩ : Addr).block := own_neT HO.out HI.out.r2 (by decide)
          have n3 : (Value.slice va X.length vc).ownBlock ≠ some (⟨w.heap.size + 1, 0, none⟩ : Addr).block := own_neT HO.out HI.out.r3 (by decide)
          have ho5 := ownsRow_setCell_other (ownsRow_setCell_other HO.out n2 (.slice va X.length vc)) n3 (.int .i64 0)
          obtain ⟨W5, hW5⟩ : ∃ V, ((W.setCell ⟨w.heap.size, 0, none⟩ (.slice va X.length vc)).setCell ⟨w.heap.size + 1, 0, none⟩ (.int .i64 0)) = V := ⟨_, rfl⟩
          rw [hW5] at e2 e3 ed hb5 ho5 ⊢
          clear hW5
          refine ⟨by simp, .inl ⟨D, _, rfl, run_takeDeferred ed, ?_⟩⟩
          have o2 : (W5.putObj D (.deferred none)).heap[w.heap.size]? = _ := (World.putObj_heap_other (show w.heap.size ≠ D by omega)).trans e2
          have o3 : (W5.putObj D (.deferred none)).heap[w.heap.size + 1]? = _ := (World.putObj_heap_other (show w.heap.size + 1 ≠ D by omega)).trans e3
          have c0 : (W5.putObj D (.deferred none)).cell? ⟨w.heap.size, 0, none⟩ = some (.slice va X.length vc) := by rw [cell_of_block o2]; rfl
          have c1 : (W5.putObj D (.deferred none)).cell? ⟨w.heap.size + 1, 0, none⟩ = some (.int .i64 0) := by rw [cell_of_block o3]; rfl
          have hb6 := hb5.trans (belowK_b (w := w) (Nat.le_refl _) W5 D _ (.deferred none) (by omega) ed rfl rfl)
          have ho6 := own_stays ho5 (grownBy_putObj' W5 D (.deferred none)) (fun r e => by cases e; exact ⟨_, ed, rfl⟩)
          refine ⟨.tuple #[.slice va X.length vc, .int .i64 0], ?_, ?_⟩
          · simp [results, Tryd.results14, go_sem, c0, c1]
          · rw [HSP2.out.1, HSP2.out.2]
            exact ⟨va, vc, by rw [fls_len], SlF.of_own ho6, hb6⟩
      case stop =>
        rintro D cd pre W hD ⟨rfl, hx⟩ hK
        have hD2 : w.heap.size + 6 ≤ D := by rw [HW2.out] at hD; have := HZ.out; omega
        have o2 : (W.putObj D (.deferred none)).heap[w.heap.size]? = _ := (World.putObj_heap_other (show w.heap.size ≠ D by omega)).trans hx.r2
        have o3 : (W.putObj D (.deferred none)).heap[w.heap.size + 1]? = _ := (World.putObj_heap_other (show w.heap.size + 1 ≠ D by omega)).trans hx.r3
        have c0 : (W.putObj D (.deferred none)).cell? ⟨w.heap.size, 0, none⟩ = some (.slice none 0 0) := by rw [cell_of_block o2]; rfl
        have c1 : (W.putObj D (.deferred none)).cell? ⟨w.heap.size + 1, 0, none⟩ = some (.int .i64 6) := by rw [cell_of_block o3]; rfl
        have hsp := splE_form (l := L) (by omega) (by rw [HSP.out]; exact hx.n)
        refine wpIn_ret ?_
        simp only [Exit.inBlock, Exit.then]
        refine ⟨by simp, .inl ⟨D, _, rfl, run_takeDeferred hK, ?_⟩⟩
        refine ⟨.tuple #[.slice none 0 0, .int .i64 6], ?_, ?_⟩
        · simp [results, Tryd.results14, go_sem, c0, c1]
        · rw [hsp.1, hsp.2]
          exact SplPost.none (hx.k.trans (belowK_b (w := w) (Nat.le_refl _) _ D _ _ (by omega) hK rfl rfl))
end Go.Proofs.YtkklmljannclmaaDoor
