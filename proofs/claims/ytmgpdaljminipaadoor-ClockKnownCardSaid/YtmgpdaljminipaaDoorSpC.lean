/- Clocks: ParseSpan of the program. -/
import Derived.Test.YtmgpdaljminipaaDoorSpA
import Derived.Lib.SplitLaws
namespace Go.Proofs.YtmgpdaljminipaaDoor
open Go.RowKit Go.Sort Go.Joins Go.Shelf
attribute [local go_sem] cell_grow frozen_grow size_grow

theorem u8_back (c : UInt8) : (c.toNat : Int).toNat.toUInt8 = c := by
  rw [Int.toNat_natCast]
  exact UInt8.toNat_inj.1 (by simp)
theorem ixB_not {c : UInt8} : ∀ {l : List UInt8}, c ∉ l → Lib.indexByte l c = -1
  | [], _ => rfl
  | x :: r, h => by
    have hx : ¬ (x == c) = true := fun e => h (by rw [beq_iff_eq.1 e]; exact List.mem_cons_self ..)
    rw [Lib.indexByte, if_neg hx, ixB_not (l := r) (fun k => h (List.mem_cons_of_mem _ k))]
    rfl
theorem ixB_at {c : UInt8} {r : List UInt8} : ∀ {a : List UInt8}, c ∉ a → Lib.indexByte (a ++ c :: r) c = (a.length : Int)
  | [], _ => by rw [List.nil_append, Lib.indexByte, if_pos (by simp)]; rfl
  | x :: a, h => by
    have hx : ¬ (x == c) = true := fun e => h (by rw [beq_iff_eq.1 e]; exact List.mem_cons_self ..)
    have ih := ixB_at (r := r) (a := a) (fun k => h (List.mem_cons_of_mem _ k))
    rw [List.cons_append, Lib.indexByte, if_neg hx, ih]
    have : ¬ ((a.length : Int) == -1) = true := by simp
    rw [if_neg this]; simp
theorem pre_one (l : List UInt8) (x : UInt8) : Lib.hasPrefix l [x] = decide (l.head? = some x) := by
  cases l with
  | nil => rfl
  | cons c r =>
    unfold Lib.hasPrefix
    rw [Bool.eq_iff_iff]
    simp only [List.isPrefixOf, Bool.and_true, beq_iff_eq, decide_eq_true_eq, List.head?_cons, Option.some.injEq]
    exact ⟨fun h => h.symm, fun h => h.symm⟩
theorem seg_no {a r : List UInt8} {c : UInt8} (hs : segB a = false) : intE a 1 1000000000000 = 6 ∨ ((intE a 1 1000000000000 = 0 ∨ intE a 1 1000000000000 = 7) ∧ (Lib.hasPrefix (a ++ c :: r) [48] = true ∨ (Lib.hasPrefix (a ++ c :: r) [48] = false ∧ Lib.hasPrefix (a ++ c :: r) [45] = true))) := by
  cases hw : wholeB a
  · exact .inl (intE_form (by decide) hw)
  · right
    refine ⟨?_, ?_⟩
    · rw [intE_whole (by decide) hw]
      split
      · exact .inl rfl
      · exact .inr rfl
    · rw [pre_one, pre_one]
      have hn := hw
      unfold wholeB at hn
      simp only [Bool.and_eq_true] at hn
      cases a with
      | nil => cases hw
      | cons x a =>
        rw [List.cons_append, List.head?_cons]
        by_cases h48 : x = 48
        · left; rw [h48]; rfl
        · right
          refine ⟨decide_eq_false (fun e => h48 (Option.some.inj e)), ?_⟩
          cases hg : ngB (x :: a)
          · exfalso
            have ha : absL (x :: a) = x :: a := by unfold absL; rw [hg]; rfl
            rw [ha] at hn
            have : segB (x :: a) = true := segB_yes.2 ⟨natB_dig hn.1, by simp, by rw [List.head?_cons]; intro e; exact h48 (Option.some.inj e)⟩
            rw [hs] at this; cases this
          · rw [ngB_cons] at hg
            have : x = 45 := UInt8.toNat_inj.1 (by simpa using hg)
            rw [this]; rfl
theorem seg_ok {a r : List UInt8} {c : UInt8} (hs : segB a = true) : Lib.hasPrefix (a ++ c :: r) [48] = false ∧ Lib.hasPrefix (a ++ c :: r) [45] = false ∧ 1 ≤ valN 0 a ∧ ((intE a 1 1000000000000 = 0 ∧ intV a 1 1000000000000 = (valN 0 a : Int) ∧ valN 0 a ≤ 1000000000000) ∨ (intE a 1 1000000000000 = 7 ∧ 1000000000000 < valN 0 a)) := by
  obtain ⟨h1, h2, h3⟩ := segB_yes.1 hs
  have hn := segB_nat hs
  have hpos := val_pos h1 h2 h3
  have hv := valZ_nat hn
  have hE := intE_whole (l := a) (lo := 1) (hi := 1000000000000) (by decide) (whole_nat hn)
  rw [hv] at hE
  have hV := intV_ok (l := a) (lo := 1) (hi := 1000000000000)
  rw [hv] at hV
  rw [pre_one, pre_one]
  cases a with
  | nil => exact absurd rfl h2
  | cons x a =>
    rw [List.cons_append, List.head?_cons]
    rw [List.head?_cons] at h3
    refine ⟨decide_eq_false h3, decide_eq_false ?_, hpos, ?_⟩
    · intro e
      have : x = 45 := Option.some.inj e
      subst this
      simp only [List.all_cons, Bool.and_eq_true] at h1
      exact absurd h1.1 (by decide)
    · by_cases h : valN 0 (x :: a) ≤ 1000000000000
      · rw [if_pos (by omega)] at hE
        exact .inl ⟨hE, hV hE, h⟩
      · rw [if_neg (by omega)] at hE
        exact .inr ⟨hE, by omega⟩
section
variable {e : Bool} {j t : Nat} {r : List UInt8} {b : Bool}
theorem qP_end : qP e 0 r t b = if r ≠ [] ∨ e = true then (0, 6) else if b = true ∨ 1000000000000 < t then (0, 7) else (t, 0) := by rw [qP]
theorem qP_miss (h : ltr (3 - j) ∉ r) : qP e (j + 1) r t b = qP e j r t b := by rw [qP, if_neg h]
theorem qP_bad (h : ltr (3 - j) ∈ r) (k : segB (r.takeWhile (· != ltr (3 - j))) = false ∨ (3 - j ≠ 0 ∧ mny (3 - j) ≤ valN 0 (r.takeWhile (· != ltr (3 - j))))) : qP e (j + 1) r t b = (0, 6) := by rw [qP, if_pos h, if_pos k]
theorem qP_big (h : ltr (3 - j) ∈ r) (k : ¬ (segB (r.takeWhile (· != ltr (3 - j))) = false ∨ (3 - j ≠ 0 ∧ mny (3 - j) ≤ valN 0 (r.takeWhile (· != ltr (3 - j)))))) (g : 1000000000000 / sec (3 - j) < valN 0 (r.takeWhile (· != ltr (3 - j)))) : qP e (j + 1) r t b = qP e j (r.dropWhile (· != ltr (3 - j))).tail t true := by
  rw [qP, if_pos h, if_neg k, if_pos g]
theorem qP_add (h : ltr (3 - j) ∈ r) (k : ¬ (segB (r.takeWhile (· != ltr (3 - j))) = false ∨ (3 - j ≠ 0 ∧ mny (3 - j) ≤ valN 0 (r.takeWhile (· != ltr (3 - j)))))) (g : ¬ 1000000000000 / sec (3 - j) < valN 0 (r.takeWhile (· != ltr (3 - j)))) : qP e (j + 1) r t b = qP e j (r.dropWhile (· != ltr (3 - j))).tail (t + valN 0 (r.takeWhile (· != ltr (3 - j))) * sec (3 - j)) b := by
  rw [qP, if_pos h, if_neg k, if_neg g]
end
/-- the ways of a round: not there; wrong; too great; added -/
theorem qP_ways {e b : Bool} {k t : Nat} {r : List UInt8} (hk : k < 4) :
    (ltr k ∉ r ∧ qP e (4 - k) r t b = qP e (4 - (k + 1)) r t b) ∨
    (∃ a r', r = a ++ ltr k :: r' ∧ ltr k ∉ a ∧
      ((segB a = false ∧ qP e (4 - k) r t b = (0, 6)) ∨
       (segB a = true ∧ k ≠ 0 ∧ mny k ≤ valN 0 a ∧ qP e (4 - k) r t b = (0, 6)) ∨
       (segB a = true ∧ (k = 0 ∨ valN 0 a < mny k) ∧ 1000000000000 / sec k < valN 0 a ∧ qP e (4 - k) r t b = qP e (4 - (k + 1)) r' t true) ∨
       (segB a = true ∧ (k = 0 ∨ valN 0 a < mny k) ∧ valN 0 a ≤ 1000000000000 / sec k ∧ qP e (4 - k) r t b = qP e (4 - (k + 1)) r' (t + valN 0 a * sec k) b))) := by
  obtain ⟨j, hj⟩ : ∃ j, 3 - k = j := ⟨_, rfl⟩
  have e1 : 3 - j = k := by omega
  rw [show 4 - k = j + 1 by omega, show 4 - (k + 1) = j by omega]
  by_cases hm : ltr k ∈ r
  · right
    have hcut := cut_at hm
    refine ⟨_, _, hcut, cut_not, ?_⟩
    have B := qP_bad (e := e) (j := j) (t := t) (r := r) (b := b)
    have G := qP_big (e := e) (j := j) (t := t) (r := r) (b := b)
    have D := qP_add (e := e) (j := j) (t := t) (r := r) (b := b)
    rw [e1] at B G D
    obtain ⟨a, ha⟩ : ∃ a, r.takeWhile (· != ltr k) = a := ⟨_, rfl⟩
    rw [ha] at B G D ⊢
    cases hs : segB a
    · exact .inl ⟨rfl, B hm (.inl hs)⟩
    · right
      by_cases hb : k ≠ 0 ∧ mny k ≤ valN 0 a
      · exact .inl ⟨rfl, hb.1, hb.2, B hm (.inr hb)⟩
      · right
        have hb' : k = 0 ∨ valN 0 a < mny k := by omega
        have hnot : ¬ (segB a = false ∨ (k ≠ 0 ∧ mny k ≤ valN 0 a)) := by
          rintro (h | h)
          · rw [hs] at h; cases h
          · exact hb h
        by_cases hg : 1000000000000 / sec k < valN 0 a
        · exact .inl ⟨rfl, hb', hg, G hm hnot hg⟩
        · exact .inr ⟨rfl, hb', by omega, D hm hnot hg⟩
  · left
    have M := qP_miss (e := e) (j := j) (t := t) (r := r) (b := b)
    rw [e1] at M
    exact ⟨hm, M hm⟩
theorem mny_ways {k : Nat} (h : k < 4) : (k = 0 ∧ mny k = 0) ∨ (k ≠ 0 ∧ 0 < mny k ∧ mny k ≤ 60) := by
  match k, h with
  | 0, _ => left; exact ⟨rfl, rfl⟩
  | 1, _ => right; decide
  | 2, _ => right; decide
  | 3, _ => right; decide
theorem ext_pre {R : ByteArray} {a b : List UInt8} (h : R.data.toList = a ++ b) : (R.extract 0 a.length).data.toList = a := by
  rw [Lib.extract_from_zero, h, List.take_left]
theorem ext_suf {R : ByteArray} {a b : List UInt8} {c : UInt8} (h : R.data.toList = a ++ c :: b) : (R.extract (a.length + 1) R.size).data.toList = b := by
  rw [Lib.extract_to_end, h, List.drop_append]; simp
end Go.Proofs.YtmgpdaljminipaaDoor
