/- Words: the law of Name and Text. | WordsNames returns true for every input, on every schedule; its arguments read afterwards as they read before. No condition beyond the row's own. -/
import Derived.Test.YtkklmljannclmaaDoorWZ9
import Derived.Lib.QuoteBits
namespace Go.Proofs.YtkklmljannclmaaDoor
open Go.RowKit Go.Sort Go.Joins Go.Shelf
attribute [local go_sem] cell_grow frozen_grow size_grow

def ltC (c : UInt8) : Bool := (decide (97 ≤ c.toNat) && decide (c.toNat ≤ 122)) || (decide (65 ≤ c.toNat) && decide (c.toNat ≤ 90))
set_option maxRecDepth 100000 in
theorem lt_or : ∀ x, x < 256 → ((decide (97 ≤ x) && decide (x ≤ 122)) || (decide (65 ≤ x) && decide (x ≤ 90))) = (decide (97 ≤ x ||| 32) && decide (x ||| 32 ≤ 122)) := by decide
set_option maxRecDepth 100000 in
theorem wlet_ok (c : UInt8) (w : World) : Calls Tryd.prog 61 #[.int .u8 (c.toNat : Int)] w fun e w' => e = .returned (.bool (ltC c)) ∧ w = w' := by
  have hz := c.toNat_lt
  have hr : ltC c = (decide (97 ≤ c.toNat ||| 32) && decide (c.toNat ||| 32 ≤ 122)) := lt_or c.toNat (by omega)
  have hor : bits BinOp.or IntKind.u8 (c.toNat : Int) 32 = ((c.toNat ||| 32 : Nat) : Int) := u8_or_nat c.toNat 32 (by omega) (by omega)
  obtain ⟨y, hy⟩ : ∃ y, c.toNat ||| 32 = y := ⟨_, rfl⟩
  obtain ⟨x, hx⟩ : ∃ x, c.toNat = x := ⟨_, rfl⟩
  rw [hy] at hr hor
  rw [hx] at hor ⊢
  obtain ⟨r, hr2⟩ : ∃ r, ltC c = r := ⟨_, rfl⟩
  rw [hr2] at hr ⊢
  have H := Lib.hid hr
  clear hr hr2 hy hx hz
  go_enter Tryd.func61, Tryd.ntmps61
  go_wp2
  all_goals go_ret
  all_goals exact ⟨ret_bool (by rw [H.out]; rw [Bool.eq_iff_iff]; simp; omega), rfl⟩
set_option maxRecDepth 100000 in
theorem rlet_ok (c : UInt8) (w : World) : Calls Tryd.prog 62 #[.int .u8 (c.toNat : Int)] w fun e w' => e = .returned (.bool (ltC c)) ∧ w = w' := by
  obtain ⟨r, hr⟩ : ∃ r, ltC c = r := ⟨_, rfl⟩
  rw [hr]
  unfold ltC at hr
  have H := Lib.hid hr
  clear hr
  go_enter Tryd.func62, Tryd.ntmps62
  go_wp2
  all_goals go_ret
  all_goals exact ⟨ret_bool (by rw [← H.out]; rw [Bool.eq_iff_iff]; simp; omega), rfl⟩
def okC (j : Nat) (c : UInt8) : Bool := ltC c || (decide (j ≠ 0) && (decide (c = 95) || dgC c))
def wnmB (L : List UInt8) : Bool := decide (1 ≤ L.length) && (decide (L.length ≤ 16) && decide (∀ j, j < L.length → okC j (bt L j) = true))
theorem wnm_no {L : List UInt8} {j : Nat} (hj : j < L.length) (h : okC j (bt L j) = false) : wnmB L = false := by
  unfold wnmB
  have e : decide (∀ j, j < L.length → okC j (bt L j) = true) = false := decide_eq_false (fun k => by rw [k j hj] at h; cases h)
  rw [e, Bool.and_false, Bool.and_false]
theorem wnm_end {L : List UInt8} (h : ∀ j, j < L.length → okC j (bt L j) = true) : wnmB L = (decide (1 ≤ L.length) && decide (L.length ≤ 16)) := by
  unfold wnmB
  rw [decide_eq_true h, Bool.and_true]
set_option maxRecDepth 100000 in
set_option maxHeartbeats 1600000 in
theorem wname_ok (s : ByteArray) (L : List UInt8) (hL : s.data.toList = L) (hs : s.size ≤ 9223372036854775806) (w : World) : Calls Tryd.prog 31 #[.string s] w fun e w' => e = .returned (.bool (wnmB L)) ∧ w = w' := by
  have hlen := len_of hL
  have HL := Lib.hid hL
  clear hL
  go_enter Tryd.func31, Tryd.ntmps31
  go_wp2
  go_loop [7] (fun i => ∃ k : Nat, i = .int .i64 k ∧ k ≤ s.size ∧ Hid (∀ j, j < k → okC j (bt L j) = true)) (fun i => s.size - (intOf i).toNat)
  case atStart => exact ⟨0, rfl, Nat.zero_le _, Lib.hid (fun j hj => by omega)⟩
  case round =>
    obtain ⟨k, rfl, hk, HA⟩ := hrel
    by_cases hlt : k < s.size
    · have hb := bt_get HL.out hlt
      have HN := Lib.hid (fun h => wnm_no (L := L) (j := k) (by omega) h)
      have HLT := Lib.hid (wlet_ok (bt L k))
      have HDG := Lib.hid (wdig_ok (bt L k))
      obtain ⟨c, hc⟩ : ∃ c, (bt L k).toNat = c := ⟨_, rfl⟩
      have h95 : (decide (bt L k = 95)) = decide (c = 95) := by
        rw [Bool.eq_iff_iff, decide_eq_true_eq, decide_eq_true_eq]
        constructor
        · intro e; rw [← hc, e]; rfl
        · intro e; exact UInt8.toNat_inj.1 (hc.trans e)
      have hok : okC k (bt L k) = (ltC (bt L k) || (decide (k ≠ 0) && (decide (c = 95) || dgC (bt L k)))) := by unfold okC; rw [h95]
      have HC := Lib.hid hc
      rw [hc] at hb HLT HDG
      clear hc h95
      obtain ⟨l, hl⟩ : ∃ l, ltC (bt L k) = l := ⟨_, rfl⟩
      obtain ⟨d, hd⟩ : ∃ d, dgC (bt L k) = d := ⟨_, rfl⟩
      rw [hl] at hok HLT
      rw [hd] at hok HDG
      clear hl hd
      have hgo : okC k (bt L k) = true → Hid (∀ j, j < k + 1 → okC j (bt L j) = true) := fun h => Lib.hid (fun j hj => by
        by_cases ej : j = k
        · rw [ej]; exact h
        · exact HA.out j (by omega))
      have HGO := Lib.hid hgo
      have HOK := Lib.hid hok
      clear hgo hok
      have hways : l = true ∨ (l = false ∧ k = 0) ∨ (l = false ∧ k ≠ 0 ∧ c = 95) ∨ (l = false ∧ k ≠ 0 ∧ c ≠ 95) := by
        cases l
        · right
          by_cases h0 : k = 0
          · exact .inl ⟨rfl, h0⟩
          · by_cases h9 : c = 95
            · exact .inr (.inl ⟨rfl, h0, h9⟩)
            · exact .inr (.inr ⟨rfl, h0, h9⟩)
        · exact .inl rfl
      rcases hways with rfl | ⟨rfl, h0⟩ | ⟨rfl, h0, h9⟩ | ⟨rfl, h0, h9⟩
      · have HG2 := HGO.out (by rw [HOK.out]; rfl)
        go_wp2_with fail
        refine (HLT.out _).mono ?_
        rintro e w1 ⟨rfl, hw⟩
        subst hw
        go_wp2
        go_round
        case rel => exact ⟨k + 1, by go_num, by omega, HG2⟩
        case measure => simp [intOf]; omega
      · have HF := Lib.hid (HN.out (by rw [HOK.out, h0]; rfl))
        have d1 : ((k : Int) == 0) = true := beq_iff_eq.2 (by omega)
        clear h0
        go_wp2_with fail
        refine (HLT.out _).mono ?_
        rintro e w1 ⟨rfl, hw⟩
        subst hw
        go_wp2
        go_ret
        exact ⟨ret_bool HF.out.symm, rfl⟩
      · have HG2 := HGO.out (by rw [HOK.out, decide_eq_true h9, decide_eq_true h0]; rfl)
        have d1 : ((k : Int) == 0) = false := beq_eq_false_iff_ne.2 (by omega)
        have d2 : ((c : Int) != 95) = false := by simp; omega
        clear h0 h9
        go_wp2_with fail
        refine (HLT.out _).mono ?_
        rintro e w1 ⟨rfl, hw⟩
        subst hw
        go_wp2
        go_round
        case rel => exact ⟨k + 1, by go_num, by omega, HG2⟩
        case measure => simp [intOf]; omega
      · have d1 : ((k : Int) == 0) = false := beq_eq_false_iff_ne.2 (by omega)
        have d2 : ((c : Int) != 95) = true := by simp; omega
        have hval : okC k (bt L k) = d := by rw [HOK.out, decide_eq_false h9, decide_eq_true h0]; rfl
        have HV := Lib.hid hval
        clear h0 h9 hval
        cases d
        · have HF := Lib.hid (HN.out HV.out)
          go_wp2_with fail
          refine (HLT.out _).mono ?_
          rintro e w1 ⟨rfl, hw⟩
          subst hw
          go_wp2_with fail
          refine (HDG.out _).mono ?_
          rintro e w1 ⟨rfl, hw⟩
          subst hw
          go_wp2
          go_ret
          exact ⟨ret_bool HF.out.symm, rfl⟩
        · have HG2 := HGO.out HV.out
          go_wp2_with fail
          refine (HLT.out _).mono ?_
          rintro e w1 ⟨rfl, hw⟩
          subst hw
          go_wp2_with fail
          refine (HDG.out _).mono ?_
          rintro e w1 ⟨rfl, hw⟩
          subst hw
          go_wp2
          go_round
          case rel => exact ⟨k + 1, by go_num, by omega, HG2⟩
          case measure => simp [intOf]; omega
    · obtain rfl : k = s.size := by omega
      have HT := Lib.hid (wnm_end (L := L) (fun j hj => HA.out j (by omega)))
      by_cases h1 : 1 ≤ s.size
      · have d1 : decide ((1 : Int) ≤ (s.size : Int)) = true := decide_eq_true (by omega)
        obtain ⟨r, hr⟩ : ∃ r, decide ((s.size : Int) ≤ 16) = r := ⟨_, rfl⟩
        have HR : Hid (wnmB L = r) := Lib.hid (by
          rw [HT.out, ← hr, len_of HL.out, decide_eq_true h1, Bool.true_and, Bool.eq_iff_iff, decide_eq_true_eq, decide_eq_true_eq]; omega)
        clear h1
        go_wp2
        go_ret
        exact ⟨ret_bool HR.out.symm, rfl⟩
      · have d1 : decide ((1 : Int) ≤ (s.size : Int)) = false := decide_eq_false (by omega)
        have HR : Hid (wnmB L = false) := Lib.hid (by rw [HT.out, len_of HL.out, decide_eq_false h1, Bool.false_and])
        clear h1
        go_wp2
        go_ret
        exact ⟨ret_bool HR.out.symm, rfl⟩
/-- a byte of a name, behind the first one -/
theorem okC_r {j : Nat} {c : UInt8} (h : j ≠ 0) : okC j c = (ltC c || (dgC c || decide (c = 95))) := by
  unfold okC
  rw [decide_eq_true h, Bool.true_and, Bool.or_comm (decide (c = 95))]
theorem okC_l {j : Nat} {c : UInt8} (h : ltC c = true) : okC j c = true := by unfold okC; rw [h]; rfl
set_option maxRecDepth 100000 in
set_option maxHeartbeats 1600000 in
theorem rname_ok (s : ByteArray) (L : List UInt8) (hL : s.data.toList = L) (hs : s.size ≤ 9223372036854775806) (w : World) : Calls Tryd.prog 32 #[.string s] w fun e w' => e = .returned (.bool (wnmB L)) ∧ w = w' := by
  have hlen := len_of hL
  have HL := Lib.hid hL
  clear hL
  have hw0 : s.size < 1 ∨ (¬ s.size < 1 ∧ 16 < s.size) ∨ (¬ s.size < 1 ∧ ¬ 16 < s.size) := by omega
  rcases hw0 with h1 | ⟨h1, h2⟩ | ⟨h1, h2⟩
  · have d1 : decide ((s.size : Int) < 1) = true := decide_eq_true (by omega)
    have HF : Hid (wnmB L = false) := Lib.hid (by unfold wnmB; rw [decide_eq_false (show ¬ 1 ≤ L.length by omega), Bool.false_and])
    clear h1
    go_enter Tryd.func32, Tryd.ntmps32
    go_wp2
    go_ret
    exact ⟨ret_bool HF.out.symm, rfl⟩
  · have d1 : decide ((s.size : Int) < 1) = false := decide_eq_false (by omega)
    have d2 : decide ((16 : Int) < (s.size : Int)) = true := decide_eq_true (by omega)
    have HF : Hid (wnmB L = false) := Lib.hid (by unfold wnmB; rw [decide_eq_false (show ¬ L.length ≤ 16 by omega), Bool.false_and, Bool.and_false])
    clear h1 h2
    go_enter Tryd.func32, Tryd.ntmps32
    go_wp2
    go_ret
    exact ⟨ret_bool HF.out.symm, rfl⟩
  · have d1 : decide ((s.size : Int) < 1) = false := decide_eq_false (by omega)
    have d2 : decide ((16 : Int) < (s.size : Int)) = false := decide_eq_false (by omega)
    have hp0 : 0 < s.size := by omega
    have hb0 := bt_get HL.out hp0
    have HL0 := Lib.hid (rlet_ok (bt L 0))
    obtain ⟨c0, hc0⟩ : ∃ c, (bt L 0).toNat = c := ⟨_, rfl⟩
    rw [hc0] at hb0 HL0
    cases hl0 : ltC (bt L 0) with
    | false =>
      have HF : Hid (wnmB L = false) := Lib.hid (wnm_no (j := 0) (by omega) (by unfold okC; rw [hl0]; rfl))
      rw [hl0] at HL0
      clear hc0 hl0 h1 h2
      go_enter Tryd.func32, Tryd.ntmps32
      go_wp2_with fail
      refine (HL0.out _).mono ?_
      rintro e w1 ⟨rfl, hw⟩
      subst hw
      go_wp2
      go_ret
      exact ⟨ret_bool HF.out.symm, rfl⟩
    | true =>
      have H0 := Lib.hid hl0
      have HSZ : Hid (¬ s.size < 1 ∧ ¬ 16 < s.size) := Lib.hid ⟨h1, h2⟩
      rw [hl0] at HL0
      clear hc0 hl0 h1 h2
      go_enter Tryd.func32, Tryd.ntmps32
      go_wp2_with fail
      refine (HL0.out _).mono ?_
      rintro e w1 ⟨rfl, hw⟩
      subst hw
      go_wp2
      clear d1 d2 hb0 hp0
      go_loop [3] (fun i => ∃ k : Nat, i = .int .i64 k ∧ k ≤ s.size ∧ Hid (∀ j, j < k → okC j (bt L j) = true)) (fun i => s.size - (intOf i).toNat)
      case atStart => exact ⟨0, rfl, Nat.zero_le _, Lib.hid (fun j hj => by omega)⟩
      case round =>
        obtain ⟨k, rfl, hk, HA⟩ := hrel
        by_cases hlt : k < s.size
        · have hb := bt_get HL.out hlt
          have HN := Lib.hid (fun h => wnm_no (L := L) (j := k) (by omega) h)
          have HLT := Lib.hid (rlet_ok (bt L k))
          have HDG := Lib.hid (wrdig_ok (bt L k))
          obtain ⟨c, hc⟩ : ∃ c, (bt L k).toNat = c := ⟨_, rfl⟩
          have h95 : (decide (bt L k = 95)) = decide (c = 95) := by
            rw [Bool.eq_iff_iff, decide_eq_true_eq, decide_eq_true_eq]
            constructor
            · intro e; rw [← hc, e]; rfl
            · intro e; exact UInt8.toNat_inj.1 (hc.trans e)
          have hgo : okC k (bt L k) = true → Hid (∀ j, j < k + 1 → okC j (bt L j) = true) := fun h => Lib.hid (fun j hj => by
            by_cases ej : j = k
            · rw [ej]; exact h
            · exact HA.out j (by omega))
          have HGO := Lib.hid hgo
          have hk0 : ltC (bt L k) = false → k ≠ 0 := fun h e => by rw [e, H0.out] at h; cases h
          rw [hc] at hb HLT HDG
          clear hc hgo
          cases hl : ltC (bt L k) with
          | true =>
            have HG2 := HGO.out (okC_l hl)
            rw [hl] at HLT
            clear hl hk0 h95
            go_wp2_with fail
            refine (HLT.out _).mono ?_
            rintro e w1 ⟨rfl, hw⟩
            subst hw
            go_wp2
            go_round
            case rel => exact ⟨k + 1, by go_num, by omega, HG2⟩
            case measure => simp [intOf]; omega
          | false =>
            have hok := okC_r (c := bt L k) (hk0 hl)
            rw [hl, h95, Bool.false_or] at hok
            rw [hl] at HLT
            clear hl hk0 h95
            cases hd : dgC (bt L k) with
            | true =>
              rw [hd] at hok HDG
              have HG2 := HGO.out (by rw [hok]; rfl)
              clear hd hok
              go_wp2_with fail
              refine (HLT.out _).mono ?_
              rintro e w1 ⟨rfl, hw⟩
              subst hw
              go_wp2_with fail
              refine (HDG.out _).mono ?_
              rintro e w1 ⟨rfl, hw⟩
              subst hw
              go_wp2
              go_round
              case rel => exact ⟨k + 1, by go_num, by omega, HG2⟩
              case measure => simp [intOf]; omega
            | false =>
              rw [hd, Bool.false_or] at hok
              rw [hd] at HDG
              clear hd
              by_cases h9 : c = 95
              · have HG2 := HGO.out (by rw [hok, decide_eq_true h9])
                have d2 : ((c : Int) != 95) = false := by simp; omega
                clear h9 hok
                go_wp2_with fail
                refine (HLT.out _).mono ?_
                rintro e w1 ⟨rfl, hw⟩
                subst hw
                go_wp2_with fail
                refine (HDG.out _).mono ?_
                rintro e w1 ⟨rfl, hw⟩
                subst hw
                go_wp2
                go_round
                case rel => exact ⟨k + 1, by go_num, by omega, HG2⟩
                case measure => simp [intOf]; omega
              · have HF := Lib.hid (HN.out (by rw [hok, decide_eq_false h9]))
                have d2 : ((c : Int) != 95) = true := by simp; omega
                clear h9 hok
                go_wp2_with fail
                refine (HLT.out _).mono ?_
                rintro e w1 ⟨rfl, hw⟩
                subst hw
                go_wp2_with fail
                refine (HDG.out _).mono ?_
                rintro e w1 ⟨rfl, hw⟩
                subst hw
                go_wp2
                go_ret
                exact ⟨ret_bool HF.out.symm, rfl⟩
        · obtain rfl : k = s.size := by omega
          have HR : Hid (wnmB L = true) := Lib.hid (by
            rw [wnm_end (L := L) (fun j hj => HA.out j (by rw [len_of HL.out] at hj; exact hj)), len_of HL.out, decide_eq_true (show 1 ≤ s.size by have := HSZ.out; omega), decide_eq_true (show s.size ≤ 16 by have := HSZ.out; omega)]; rfl)
          go_wp2
          go_ret
          exact ⟨ret_bool HR.out.symm, rfl⟩
set_option maxRecDepth 100000 in
set_option maxHeartbeats 1600000 in
theorem law_names (s : ByteArray) (w : World) (hT : T1 w) : Calls Tryd.prog 9 #[.string s] w fun e w' => e = .returned (.bool true) ∧ Below w.heap.size w w' := by
  have HT := Lib.hid hT
  clear hT
  by_cases hs : 20000 < s.size
  · have d1 : decide ((20000 : Int) < (s.size : Int)) = true := decide_eq_true (by omega)
    go_enter Tryd.func9, Tryd.ntmps9
    go_wp2_with fail
    refine (shown_ok _ HT.out).mono ?_
    rintro e w1 ⟨rfl, b1⟩
    have HB := Lib.hid b1
    clear b1
    go_wp2
    go_ret
    exact ⟨rfl, HB.out⟩
  · have d1 : decide ((20000 : Int) < (s.size : Int)) = false := decide_eq_false (by omega)
    have HN := Lib.hid (fun w => wname_ok s _ rfl (by omega) w)
    have HR := Lib.hid (fun w => rname_ok s _ rfl (by omega) w)
    have HX := Lib.hid (fun w => wtext_ok s _ rfl (by omega) w)
    have HY := Lib.hid (fun w => rtext_ok s _ rfl (by omega) w)
    obtain ⟨a, ha⟩ : ∃ a, wnmB s.data.toList = a := ⟨_, rfl⟩
    obtain ⟨b, hb⟩ : ∃ b, txB s.data.toList = b := ⟨_, rfl⟩
    rw [ha] at HN HR
    rw [hb] at HX HY
    clear hs ha hb
    go_enter Tryd.func9, Tryd.ntmps9
    go_wp2_with fail
    refine (HN.out _).mono ?_
    rintro e w1 ⟨rfl, rfl⟩
    go_wp2_with fail
    refine (HR.out _).mono ?_
    rintro e w1 ⟨rfl, rfl⟩
    have q1 : (a == a) = true := by simp
    have q2 : (b == b) = true := by simp
    go_wp2_with fail
    refine (HX.out _).mono ?_
    rintro e w1 ⟨rfl, rfl⟩
    go_wp2_with fail
    refine (HY.out _).mono ?_
    rintro e w1 ⟨rfl, rfl⟩
    go_wp2_with fail
    refine (shown_ok _ HT.out).mono ?_
    rintro e w1 ⟨rfl, b1⟩
    have HB := Lib.hid b1
    clear b1
    go_wp2
    go_ret
    exact ⟨rfl, HB.out⟩
end Go.Proofs.YtkklmljannclmaaDoor

namespace Go.Proofs.YtkklmljannclmaaDoor.wordsNames
open Go.ChangeShapes Go.WideShapes Go.ChangeAt Go.RowKit

set_option maxRecDepth 100000 in
theorem contract (H : Type) (enc : TypeId × Value → H) (W : World) (base : Nat) (args : Array Value) (ds gs : List (DataW H)) (before : List MemPlace)
    (hval : ∀ (j : Nat) t v, Tryd.f9.params[j]? = some t → args[j]? = some v → Value.okWide Tryd.prog W .any base t v)
    (hW : DataW.Whole enc Tryd.prog Tryd.f9.params.toList Rows.wordsNamesSpec.vars false W args.toList ds gs before) (hL : laidMetH Tryd.prog Rows.wordsNamesRow.laid W) (hsh : W.ShapedOpen Tryd.prog) :
    Calls Tryd.prog 9 args W fun e W' => ∃ v, e = .returned v ∧ Rows.wordsNamesSpec.post enc Tryd.prog Tryd.f9 false true false false W args v W' := by
  have hW' := hW
  obtain ⟨p, q, hA0, hV, rfl, hfz, hnd⟩ := hW
  have hA : DataW.TrodAll enc Tryd.prog W 0 (fun _ => true) true Tryd.f9.params.toList args.toList ds p := hA0
  rw [Tryd.params9] at hA hval
  obtain ⟨v0, vs0, d0, ds0, p0, q0, hargs, rfl, rfl, h0, r0⟩ := trodAll_cons hA
  obtain ⟨rfl, rfl, rfl⟩ := trodAll_nil r0
  obtain rfl : args = #[v0] := by cases args; simp_all
  obtain ⟨rfl, rfl⟩ := trodVars_none hV
  obtain ⟨s0, rfl⟩ := okWide_string Tryd.underlying9 (hval 0 9 v0 rfl rfl)
  refine (law_names s0 W (t1_of hL hsh)).mono fun e W' ⟨he, hb⟩ => ?_
  exact ⟨_, he, law_post hW' rfl (by rw [Tryd.params9]; kernel_rfl) rfl rfl rfl rfl hb⟩

theorem laid_met (os : Os) : laidMet Tryd.prog Rows.wordsNamesRow.laid ((laidWorld os).forCall (fun _ _ => 0) ⟨#[], #[.string ⟨#[]⟩], []⟩).memory :=
  laidMet_of_run' 8 (by kernel_rfl) (by kernel_rfl)
theorem reads (os : Os) {H : Type} (enc : TypeId × Value → H) : ∃ places, DataW.whole enc Tryd.prog ((laidWorld os).forCall (fun _ _ => 0) ⟨#[], #[.string ⟨#[]⟩], []⟩).memory Tryd.f9.params.toList Rows.wordsNamesSpec.vars false #[Value.string ⟨#[]⟩].toList 8 = some ([.lit (.string [])], [], places) :=
  ⟨[], by kernel_rfl⟩

set_option maxRecDepth 100000 in
theorem lifted (os : Os) (started : os.Started) (H : Type) (enc : TypeId × Value → H) (F : Stop.Interp) :
    ReturnsInHanded {} Tryd.checked os 9 .any ((OpenSpec.ofChange Rows.wordsNamesSpec).preRow enc Tryd.prog Tryd.f9 Rows.wordsNamesRow.domain false Rows.wordsNamesRow.laid) (((OpenSpec.ofChange Rows.wordsNamesSpec).at F).post enc Tryd.prog Tryd.f9 false true false false) := by
  obtain ⟨places, hx⟩ := reads os enc
  refine returnsInHanded_of_row (C := Tryd.checked) (s := OpenSpec.ofChange Rows.wordsNamesSpec) own started (by kernel_rfl) Tryd.func9
    (witness_row_at (enc := enc) (C := Tryd.checked) false (laidWorld os) #[.string ⟨#[]⟩] rfl (by kernel_rfl) (by kernel_rfl) (by kernel_rfl)
      (OpenSpec.preRow_of_cond 8 hx (by kernel_rfl) (fun k hk => by cases hk) (by kernel_rfl) (laid_met os))) ?_
  intro W base args ds gs before hval hW _ _ _ hL hsh _
  exact contract H enc W base args ds gs before hval hW hL hsh

theorem said : Rows.WordsNamesSaid :=
  OpenClaim.holds_of_cond 9 Tryd.f9 rfl rfl rfl rfl rfl rfl rfl ⟨rfl, rfl, rfl, rfl, rfl⟩ rfl rfl rfl rfl rfl (by kernel_rfl) Tryd.func9 (by kernel_rfl)
    (of_decide_eq_true (by kernel_rfl)) (by unfold Func.isWrapper; first | (rw [if_pos (by decide +kernel)]; kernel_rfl) | (rw [if_neg (by decide +kernel)]; exact ⟨rfl, rfl⟩))
    (fun os started H enc _ F => by rw [OpenClaim.pre_eq_preRow]; exact lifted os started H enc F)

theorem plain (f : FuncId) (fn : Func) (hf : Tryd.pinned.checked.prog.funcNamed "polder/polderlaw01.WordsNames" = some f) (hfn : Tryd.pinned.checked.prog.funcs[f]? = some fn) :
    true = Tryd.pinned.checked.prog.looks [] ∧ ∀ (j : Nat) t, fn.params[j]? = some t → Tryd.pinned.checked.prog.wantsStandIn t = false := by
  obtain rfl : f = 9 := Option.some.inj ((show Tryd.prog.funcNamed "polder/polderlaw01.WordsNames" = some 9 by kernel_rfl).symm.trans hf) |>.symm
  obtain rfl : fn = Tryd.f9 := (Option.some.inj (Tryd.func9.symm.trans hfn)).symm
  refine ⟨by kernel_rfl, fun j t ht => ?_⟩
  rw [Tryd.params9] at ht
  have hm : t ∈ [9] := by simpa using Array.mem_of_getElem? ht
  have hall : ([9].all fun u => !Tryd.prog.wantsStandIn u) = true := by kernel_rfl
  exact (show Tryd.prog.wantsStandIn t = false by simpa using List.all_eq_true.1 hall t hm)

/-- THE CARD. -/
theorem card : Rows.WordsNamesCardSaid :=
  Claim7.holds_tied_plain_at .later [] _ _ _ _ said (fun _ h => by cases h) (by kernel_rfl) (fun _ h => by cases h) wordsNames_row_tie rfl ⟨rfl, rfl⟩ (by kernel_rfl) rfl plain (by kernel_rfl)
#print axioms card
end Go.Proofs.YtkklmljannclmaaDoor.wordsNames
