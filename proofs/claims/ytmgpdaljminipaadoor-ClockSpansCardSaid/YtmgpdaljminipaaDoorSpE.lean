/- Clocks: ParseSpan of the reference. -/
import Derived.Test.YtmgpdaljminipaaDoorSpB
import Derived.Test.YtmgpdaljminipaaDoorSpC
namespace Go.Proofs.YtmgpdaljminipaaDoor
open Go.RowKit Go.Sort Go.Joins Go.Shelf
attribute [local go_sem] cell_grow frozen_grow size_grow

theorem seg_dig {d : List UInt8} (hd : d.all dgC = true) (hs : segB d = false) : intE d 1 1000000000000 = 6 ∨ (intE d 1 1000000000000 = 7 ∧ d = [48]) := by
  cases d with
  | nil => exact .inl rfl
  | cons x r =>
    have hx : x = 48 := by
      by_cases e : x = 48
      · exact e
      · exfalso
        have : segB (x :: r) = true := segB_yes.2 ⟨hd, by simp, by rw [List.head?_cons]; intro h; exact e (Option.some.inj h)⟩
        rw [hs] at this; cases this
    subst hx
    by_cases hr : r = []
    · subst hr; right; exact ⟨by decide +kernel, rfl⟩
    · left
      refine intE_form (by decide) ?_
      refine whole_zero (l := 48 :: r) ?_ ?_
      · have := List.length_pos_iff.2 hr
        rw [frm_of (by simp), show (bt (48 :: r) 0).toNat = 48 from rfl, if_neg (by decide), List.length_cons]
        omega
      · rw [frm_of (by simp), show (bt (48 :: r) 0).toNat = 48 from rfl, if_neg (by decide)]; rfl
theorem seg_ne48 {d : List UInt8} (h : segB d = true) : d ≠ [48] := by
  rintro rfl
  cases h
theorem pR_ways {u m : Nat} {b : Bool} {d r : List UInt8} {c : UInt8} (hc : dgC c = false) :
    (lix c ≤ u ∧ pR u m b d (c :: r) = (0, 6)) ∨
    (u < lix c ∧ segB d = false ∧ pR u m b d (c :: r) = (0, 6)) ∨
    (u < lix c ∧ segB d = true ∧ 1 < lix c ∧ mny (lix c - 1) ≤ valN 0 d ∧ pR u m b d (c :: r) = (0, 6)) ∨
    (u < lix c ∧ segB d = true ∧ (lix c = 1 ∨ valN 0 d < mny (lix c - 1)) ∧
      ((1000000000000 / sec (lix c - 1) < valN 0 d ∧ pR u m b d (c :: r) = pR (lix c) m true [] r) ∨
       (valN 0 d ≤ 1000000000000 / sec (lix c - 1) ∧ b = true ∧ pR u m b d (c :: r) = pR (lix c) m true [] r) ∨
       (valN 0 d ≤ 1000000000000 / sec (lix c - 1) ∧ b = false ∧ pR u m b d (c :: r) = pR (lix c) (m + valN 0 d * sec (lix c - 1)) false [] r))) := by
  by_cases h1 : lix c ≤ u
  · exact .inl ⟨h1, pR_bad hc (badS_le h1)⟩
  · right
    have h1' : u < lix c := by omega
    cases hs : segB d
    · exact .inl ⟨h1', rfl, pR_bad hc (badS_seg hs)⟩
    · right
      by_cases h2 : 1 < lix c ∧ mny (lix c - 1) ≤ valN 0 d
      · refine .inl ⟨h1', rfl, h2.1, h2.2, pR_bad hc ?_⟩
        unfold badS
        rw [decide_eq_true h2.1, decide_eq_true h2.2]; simp
      · right
        have hb : badS u d c = false := by
          unfold badS
          rw [decide_eq_false h1, hs]
          by_cases h3 : 1 < lix c
          · rw [decide_eq_true h3, decide_eq_false (fun h => h2 ⟨h3, h⟩)]; rfl
          · rw [decide_eq_false h3]; rfl
        refine ⟨h1', rfl, by omega, ?_⟩
        rw [pR_go hc hb]
        by_cases hg : 1000000000000 / sec (lix c - 1) < valN 0 d
        · left
          rw [decide_eq_true hg, Bool.or_true, if_pos rfl]
          exact ⟨hg, rfl⟩
        · right
          rw [decide_eq_false hg, Bool.or_false]
          cases b
          · right; exact ⟨by omega, rfl, rfl⟩
          · left; exact ⟨by omega, rfl, rfl⟩
/-- which letter: after k units were compared -/
def nxk (c : UInt8) (k : Nat) : Int := if lix c ≤ k then (lix c : Int) - 1 else -1
theorem nxk_zero (c : UInt8) : nxk c 0 = -1 := by
  unfold nxk
  split
  · rename_i h
    have : lix c = 0 := by omega
    rw [this]; rfl
  · rfl
theorem nxk_hit {k : Nat} {c : UInt8} (h : k < 4) (hc : c = ltr k) : nxk c (k + 1) = k := by
  subst hc
  unfold nxk
  rw [lix_ltr h, if_pos (Nat.le_refl _)]; omega
theorem nxk_miss {k : Nat} {c : UInt8} (hc : c ≠ ltr k) : nxk c (k + 1) = nxk c k := by
  have h1 : lix c ≠ k + 1 := fun e => hc (ltr_lix e)
  unfold nxk
  by_cases h : lix c ≤ k
  · rw [if_pos h, if_pos (by omega)]
  · rw [if_neg h, if_neg (by omega)]
theorem nxk_four (c : UInt8) : nxk c 4 = (lix c : Int) - 1 := by unfold nxk; rw [if_pos (lix_le c)]
/-- the bytes from f to i -/
def mid (l : List UInt8) (f i : Nat) : List UInt8 := (l.drop f).take (i - f)
theorem mid_self (l : List UInt8) (i : Nat) : mid l i i = [] := by unfold mid; rw [Nat.sub_self]; rfl
theorem mid_succ {l : List UInt8} {f i : Nat} (h : f ≤ i) (hi : i < l.length) : mid l f (i + 1) = mid l f i ++ [bt l i] := by
  unfold mid
  rw [show i + 1 - f = i - f + 1 by omega, List.take_add_one, List.getElem?_drop, show f + (i - f) = i by omega, bt_at hi]
  rfl
theorem drop_bt {l : List UInt8} {i : Nat} (hi : i < l.length) : l.drop i = bt l i :: l.drop (i + 1) := by
  rw [List.drop_eq_getElem_cons hi]
  congr 1
  unfold bt
  rw [List.getD_eq_getElem?_getD, List.getElem?_eq_getElem hi]; rfl
theorem ext_mid {S : ByteArray} {l : List UInt8} (h : S.data.toList = l) (f i : Nat) : (S.extract f i).data.toList = mid l f i := by
  unfold mid
  rw [← h]
  simp [ByteArray.data_extract, Array.toList_extract, List.extract_eq_take_drop]
end Go.Proofs.YtmgpdaljminipaaDoor
