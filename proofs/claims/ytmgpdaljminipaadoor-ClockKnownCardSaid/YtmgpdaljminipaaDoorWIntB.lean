/- Words: Int of the program. -/
import Derived.Test.YtmgpdaljminipaaDoorWIntA
import Derived.Test.YtmgpdaljminipaaDoorTabs
import Derived.Lib.AtoiErrMem
namespace Go.Proofs.YtmgpdaljminipaaDoor
open Go.RowKit Go.Sort Go.Joins Go.Shelf
attribute [local go_sem] cell_grow frozen_grow size_grow

/-- the tables that numbers need -/
structure TW (w : World) : Prop where
  pow : Lib.TabIs Tryd.prog w "internal/strconv.uint64pow10" .u64 Lib.pow10Tab
  rng : ∃ tp p, w.var? Tryd.prog "strconv.ErrRange" = some #[.iface tp p]
theorem var_below {P : Program} {w w' : World} {nm : String} {cs : Array Value} (h : w.var? P nm = some cs) (hb : Below w.heap.size w w') : w'.var? P nm = some cs := by
  unfold World.var? at *
  cases hg : P.globalNamed nm with
  | none => rw [hg] at h; cases h
  | some g =>
    rw [hg] at h
    simp only [Option.bind_some] at h ⊢
    cases hh : w.heap[g]? with
    | none => rw [hh] at h; cases h
    | some o =>
      rw [hh] at h
      rw [hb.block g (blk_lt hh), hh]
      exact h
theorem TW.below {w w' : World} (h : TW w) (hb : Below w.heap.size w w') : TW w' := ⟨tabIs_below h.pow hb, h.rng.elim fun tp h => h.elim fun p h => ⟨tp, p, var_below h hb⟩⟩
theorem pref45 (l : List UInt8) : Lib.hasPrefix l [45] = ngB l := by
  cases l with
  | nil => rfl
  | cons c r =>
    rw [ngB_cons]
    unfold Lib.hasPrefix
    rw [Bool.eq_iff_iff]
    simp only [List.isPrefixOf, Bool.and_true, beq_iff_eq, decide_eq_true_eq]
    constructor
    · intro h; rw [← h]; rfl
    · intro h; exact (UInt8.toNat_inj.1 h).symm
theorem trim45 (l : List UInt8) : Lib.trimPrefix l [45] = absL l := by
  unfold Lib.trimPrefix absL
  rw [pref45]
  cases ngB l
  · rfl
  · cases l <;> rfl
theorem whole_bad {A : List UInt8} {g : Bool} (h : A = [] ∨ (bt A 0 = 48 ∧ (1 < A.length ∨ g = true))) : (natB A && !(g && decide (A = [48]))) = false := by
  rcases h with rfl | ⟨h1, h2⟩
  · rfl
  · cases hn : natB A
    · rfl
    · have hne := natB_ne hn
      cases A with
      | nil => exact absurd rfl hne
      | cons c r =>
        have hc : c = 48 := h1
        subst hc
        by_cases hr : r = []
        · subst hr
          have hg : g = true := h2.resolve_left (by simp)
          subst hg; rfl
        · have := natB_head hn (by have := List.length_pos_iff.2 hr; simp only [List.length_cons]; omega)
          exact absurd rfl this
theorem whole_good {A : List UInt8} {g : Bool} (h : A.all dgC = true) (h0 : A ≠ []) (h1 : bt A 0 = 48 → A.length = 1 ∧ g = false) : (natB A && !(g && decide (A = [48]))) = true := by
  cases A with
  | nil => exact absurd rfl h0
  | cons c r =>
    have hb : bt (c :: r) 0 = c := rfl
    rw [hb] at h1
    by_cases hc : c = 48
    · obtain ⟨h2, rfl⟩ := h1 hc
      rw [natB_of h h0 (.inl h2)]; rfl
    · rw [natB_of h h0 (.inr (by rw [List.head?_cons]; intro e; exact hc (Option.some.inj e)))]
      rw [decide_eq_false (fun e => hc (List.cons.inj e).1)]; simp
/-- ParseInt of a whole number -/
theorem parseInt_ok (s : ByteArray) (L : List UInt8) (hL : s.data.toList = L) (hw : wholeB L = true) (hs : s.size ≤ 281474976710656) (w : World) (hT : TW w) :
    Calls Tryd.prog 48 #[.string s, .int .i64 10, .int .i64 64] w fun e w' => Below w.heap.size w w' ∧ ((-9223372036854775808 ≤ valZ L ∧ valZ L ≤ 9223372036854775807 ∧ e = .returned (.tuple #[.int .i64 (valZ L), .nilIface])) ∨ (¬ (-9223372036854775808 ≤ valZ L ∧ valZ L ≤ 9223372036854775807) ∧ ∃ v N, e = .returned (.tuple #[.int .i64 v, .iface 128 (.pointer (some ⟨N, 0, none⟩))]))) := by
  have hp := pi64 hw
  by_cases h : -9223372036854775808 ≤ valZ L ∧ valZ L ≤ 9223372036854775807
  · rw [if_pos h] at hp
    refine (Tryd.strconv_ParseInt_10_at64_ok s (by omega) _ (by rw [hL]; exact hp) w).mono ?_
    rintro e w' ⟨rfl, h1⟩
    refine ⟨?_, .inl ⟨h.1, h.2, rfl⟩⟩
    rcases h1 with rfl | ⟨t, rfl⟩
    · exact Below.refl _ _
    · exact Lib.bytesWorld_below _ _ _
  · rw [if_neg h] at hp
    obtain ⟨tp, p, hv⟩ := hT.rng
    refine (Tryd.strconv_ParseInt_10_at64_range_var s hs (by rw [hL]; exact hp) tp p w hv).mono ?_
    rintro e w' ⟨N, rfl, _, _, h1⟩
    exact ⟨h1, .inr ⟨h, _, N, rfl⟩⟩
set_option maxRecDepth 100000 in
set_option maxHeartbeats 1000000 in
theorem wint_ok (s : ByteArray) (L : List UInt8) (hL : s.data.toList = L) (hs : s.size ≤ 281474976710656) (lo hi : Int) (hlo0 : -9223372036854775808 ≤ lo) (hhi0 : hi ≤ 9223372036854775807) (w : World) (hT : TW w) : Calls Tryd.prog 31 #[.string s, .int .i64 lo, .int .i64 hi] w fun e w' => e = .returned (.tuple #[.int .i64 (intV L lo hi), .int .i64 (intE L lo hi)]) ∧ Below w.heap.size w w' := by
  have hlen := len_of hL
  by_cases hlo : hi < lo
  · have d1 : decide (hi < lo) = true := decide_eq_true hlo
    have HE := Lib.hid (intE_arg (l := L) hlo)
    clear hL hT
    go_enter Tryd.func31, Tryd.ntmps31
    go_wp2
    go_ret2
    exact ⟨ret_two (intV_no (by rw [HE.out]; decide)).symm HE.out.symm, Below.refl _ _⟩
  · have d1 : decide (hi < lo) = false := decide_eq_false hlo
    have hc := Tryd.strings_CutPrefix s ⟨#[45]⟩
    rw [hL, show (⟨#[45]⟩ : ByteArray).data.toList = [45] from rfl, trim45, pref45] at hc
    have HC := Lib.hid hc
    clear hc
    obtain ⟨g, hg⟩ : ∃ g, ngB L = g := ⟨_, rfl⟩
    obtain ⟨A, hA⟩ : ∃ A, absL L = A := ⟨_, rfl⟩
    rw [hg, hA] at HC
    obtain ⟨t, ht⟩ : ∃ t : ByteArray, ⟨A.toArray⟩ = t := ⟨_, rfl⟩
    rw [ht] at HC
    have htl : t.data.toList = A := by rw [← ht]
    have hAl := len_of htl
    have hAd := absL_drop L
    rw [hA] at hAd
    have hAs : A.length ≤ L.length := by rw [hAd, List.length_drop]; omega
    have hts : t.size ≤ 281474976710656 := by omega
    clear ht
    have HF := Lib.hid (intE_form (l := L) (lo := lo) (hi := hi) (by omega))
    have HWH := Lib.hid (intE_whole (l := L) (lo := lo) (hi := hi) (by omega))
    have hwd : wholeB L = (natB A && !(g && decide (A = [48]))) := by unfold wholeB; rw [hA, hg]
    have HWD := Lib.hid hwd
    have HTL := Lib.hid htl
    have HT := Lib.hid hT
    have HL := Lib.hid hL
    clear hwd htl hg hA hAd hT hL
    go_enter Tryd.func31, Tryd.ntmps31
    go_wp2_with fail
    refine (HC.out _).mono ?_
    rintro e w1 ⟨rfl, rfl⟩
    clear HC
    go_wp2_with fail
    go_loop [10, 23] (fun _ i => ∃ k : Nat, i = .int .i64 k ∧ k ≤ t.size ∧ Hid (∀ j, j < k → dgC (bt A j) = true)) (fun _ i => t.size - (intOf i).toNat)
    case atStart => exact ⟨0, rfl, Nat.zero_le _, Lib.hid (fun j hj => by omega)⟩
    case round =>
      obtain ⟨k, rfl, hk, HA⟩ := hrel
      by_cases hlt : k < t.size
      · have hb := bt_get HTL.out hlt
        have hb2 := (bt A k).toNat_lt
        have HD := Lib.hid (wdig_ok (bt A k))
        obtain ⟨c, hc⟩ : ∃ c, bt A k = c := ⟨_, rfl⟩
        rw [hc] at hb hb2 HD
        obtain ⟨r, hr⟩ : ∃ r, dgC c = r := ⟨_, rfl⟩
        rw [hr] at HD
        have HCR := Lib.hid (And.intro hc hr)
        clear hc hr
        cases r
        · go_wp2_with fail
          refine (HD.out _).mono ?_
          rintro e w1 ⟨rfl, rfl⟩
          go_wp2_with fail
          go_ret2
          have h6 := HF.out (by
            rw [HWD.out]
            have : natB A = false := by
              cases h : natB A
              · rfl
              · have := List.all_eq_true.1 (natB_dig h) (bt A k) (by rw [List.mem_iff_getElem?]; exact ⟨k, bt_at (by omega)⟩)
                rw [HCR.out.1, HCR.out.2] at this; cases this
            rw [this]; rfl)
          exact ⟨ret_two (intV_no (by rw [h6]; decide)).symm h6.symm, Below.refl _ _⟩
        · go_wp2_with fail
          refine (HD.out _).mono ?_
          rintro e w1 ⟨rfl, rfl⟩
          go_wp2_with fail
          go_roundw
          case rel => exact ⟨k + 1, by go_num, by omega, Lib.hid (fun j hj => by
            by_cases ej : j = k
            · rw [ej, HCR.out.1, HCR.out.2]
            · exact HA.out j (by omega))⟩
          case measure => simp [intOf]; omega
      · obtain rfl : k = t.size := by omega
        have hall : A.all dgC = true := by
          rw [List.all_eq_true]
          intro x hx
          obtain ⟨i, hi⟩ := List.mem_iff_getElem?.1 hx
          have hlt : i < A.length := by
            rcases Nat.lt_or_ge i A.length with h' | h'
            · exact h'
            · rw [List.getElem?_eq_none h'] at hi; cases hi
          rw [bt_at hlt] at hi
          cases hi
          exact HA.out i (by omega)
        have hem := empty_nil HTL.out
        have HWB := Lib.hid (whole_bad (A := A) (g := g))
        have HWG := Lib.hid (whole_good (A := A) (g := g) hall)
        clear HA hall
        by_cases hz : t.size = 0
        · have hAn : A = [] := List.length_eq_zero_iff.1 (by omega)
          rw [decide_eq_true hAn] at hem
          have h6 := HF.out (by rw [HWD.out]; exact HWB.out (.inl hAn))
          have H6 := Lib.hid h6
          clear h6 HTL HWB HWG hAn
          go_wp2_with fail
          go_ret2
          exact ⟨ret_two (intV_no (by rw [H6.out]; decide)).symm H6.out.symm, Below.refl _ _⟩
        · have hp : 0 < t.size := by omega
          have hAn : A ≠ [] := by intro e; rw [e] at hAl; simp at hAl; omega
          rw [decide_eq_false hAn] at hem
          have hb0 := bt_get HTL.out hp
          have hb02 := (bt A 0).toNat_lt
          have h48 := c48 (c := bt A 0)
          obtain ⟨c, hc⟩ : ∃ c, bt A 0 = c := ⟨_, rfl⟩
          rw [hc] at hb0 hb02 h48
          have HC0 := Lib.hid hc
          clear hc
          by_cases hbad : c = 48 ∧ (1 < A.length ∨ g = true)
          · have h6 := HF.out (by rw [HWD.out]; exact HWB.out (.inr (by rw [HC0.out]; exact hbad)))
            have H6 := Lib.hid h6
            rw [decide_eq_true hbad.1] at h48
            have hor : decide ((1 : Int) < (t.size : Int)) = true ∨ decide ((1 : Int) < (t.size : Int)) = false ∧ g = true := by
              rcases hbad.2 with h | h
              · left; exact decide_eq_true (by omega)
              · by_cases h1 : (1 : Int) < (t.size : Int)
                · left; exact decide_eq_true h1
                · right; exact ⟨decide_eq_false h1, h⟩
            clear h6 HTL HWB HWG hAn hbad
            rcases hor with h1 | ⟨h1, rfl⟩
            all_goals
              go_wp2_with fail
              go_ret2
              exact ⟨ret_two (intV_no (by rw [H6.out]; decide)).symm H6.out.symm, Below.refl _ _⟩
          · have hgood : c = 48 → A.length = 1 ∧ g = false := by
              intro h
              refine ⟨?_, ?_⟩
              · rcases Nat.lt_or_ge 1 A.length with h1 | h1
                · exact absurd ⟨h, .inl h1⟩ hbad
                · omega
              · cases g
                · rfl
                · exact absurd ⟨h, .inr rfl⟩ hbad
            have hwt : wholeB L = true := by rw [HWD.out]; exact HWG.out hAn (by rw [HC0.out]; exact hgood)
            have HE := Lib.hid (HWH.out hwt)
            have hV := intV_ok (l := L) (lo := lo) (hi := hi)
            have HV := Lib.hid hV
            have HP := Lib.hid (parseInt_ok s L HL.out hwt hs _ HT.out)
            have hor : decide (c = 48) = false ∨ (decide (c = 48) = true ∧ decide ((1 : Int) < (t.size : Int)) = false ∧ g = false) := by
              by_cases h : c = 48
              · right
                obtain ⟨h1, h2⟩ := hgood h
                exact ⟨decide_eq_true h, decide_eq_false (by omega), h2⟩
              · left; exact decide_eq_false h
            clear HTL HWB HWG hAn hbad hgood hwt HF HWH HWD HT HL hV
            rcases hor with h1 | ⟨h1, h2, rfl⟩
            all_goals
              rw [h1] at h48
              clear h1
              go_wp2_with fail
              refine HP.out.mono ?_
              rintro e w1 ⟨b1, ⟨v0, v1, rfl⟩ | ⟨v0, v, N, rfl⟩⟩
              · obtain ⟨v, hv⟩ : ∃ v, valZ L = v := ⟨_, rfl⟩
                rw [hv] at HE HV v0 v1 ⊢
                clear HP hv
                go_wp2
                all_goals go_ret2
                all_goals
                  have hE := HE.out
                  first
                    | (rw [if_pos (by omega)] at hE; exact ⟨ret_two (HV.out hE).symm hE.symm, b1⟩)
                    | (rw [if_neg (by omega)] at hE; exact ⟨ret_two (intV_no (by rw [hE]; decide)).symm hE.symm, b1⟩)
              · have h7 : intE L lo hi = 7 := by
                  rw [HE.out, if_neg]
                  intro h
                  exact v0 ⟨by omega, by omega⟩
                have H7 := Lib.hid h7
                clear h7 HE HV HP v0
                go_wp2
                all_goals go_ret2
                all_goals exact ⟨ret_two (intV_no (by rw [H7.out]; decide)).symm H7.out.symm, b1⟩
end Go.Proofs.YtmgpdaljminipaaDoor
