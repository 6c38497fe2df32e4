/- Words: a text cut at each instance of one byte. No program. | Words: texts, quotations and what they hold. No program. | Words: a line's fields. No program. | Words: digits, whole numbers, Int. No program. | General lemmas: worlds behind calls that only make memory; slices that read as lists; one plain statement each. | General lemmas for seats without bits: worlds behind calls, results, rows of the call's own. | Words: Digits of the reference; which bytes are digits. -/
import Derived.Lib.SplitLaws
import Derived.Lib.ReplaceLaws
import Derived.Lib.ParseIntBTie
import Derived.Lib.ItoaMem
import Derived.Test.YtkklmljannclmaaDoorProg
import Derived.WalkKit
import Derived.WalkSpells
import Derived.WalkLawsBesides
import Derived.Deep.QuietTactic
import Derived.BigQuiet
import Derived.Lib.Hide
import Derived.Lib.QuietBelow
import Derived.Lib.SmallJoins
import Derived.Deep.AppendLies
import Derived.OneCell
import Derived.Laws.IdiomStrings
namespace Go.Proofs.YtkklmljannclmaaDoor

/-- the pieces between the bytes c -/
def spl (c : UInt8) : List UInt8 → List (List UInt8)
  | [] => [[]]
  | x :: r => if x = c then [] :: spl c r else (x :: (spl c r).headD []) :: (spl c r).tail
theorem spl_nil (c : UInt8) : spl c [] = [[]] := rfl
theorem spl_ne (c : UInt8) (l : List UInt8) : spl c l ≠ [] := by
  cases l with
  | nil => simp [spl]
  | cons x r =>
    rw [spl]
    split <;> simp
theorem spl_hit (c : UInt8) (r : List UInt8) : spl c (c :: r) = [] :: spl c r := by rw [spl, if_pos rfl]
theorem spl_miss {c x : UInt8} {r : List UInt8} (h : x ≠ c) : spl c (x :: r) = (x :: (spl c r).headD []) :: (spl c r).tail := by rw [spl, if_neg h]
theorem hd_mem {l : List (List UInt8)} (h : l ≠ []) : l.headD [] ∈ l := by
  cases l with
  | nil => exact absurd rfl h
  | cons p q => exact List.mem_cons_self ..
/-- a text without the byte is one piece -/
theorem spl_one {c : UInt8} : ∀ {l : List UInt8}, c ∉ l → spl c l = [l]
  | [], _ => rfl
  | x :: r, h => by
    have h1 : x ≠ c := fun e => h (by rw [e]; exact List.mem_cons_self ..)
    have h2 := spl_one (l := r) (fun k => h (List.mem_cons_of_mem _ k))
    rw [spl_miss h1]
    simp [h2]
theorem spl_cut {c : UInt8} : ∀ {a r : List UInt8}, c ∉ a → spl c (a ++ c :: r) = a :: spl c r
  | [], r, _ => by rw [List.nil_append, spl_hit]
  | x :: a, r, h => by
    have h1 : x ≠ c := fun e => h (by rw [e]; exact List.mem_cons_self ..)
    have h2 := spl_cut (a := a) (r := r) (fun k => h (List.mem_cons_of_mem _ k))
    rw [List.cons_append, spl_miss h1]
    simp [h2]
theorem spl_mem {c : UInt8} : ∀ {l p : List UInt8}, p ∈ spl c l → c ∉ p
  | [], p, h => by
    rw [spl_nil] at h
    have : p = [] := by simpa using h
    subst this; simp
  | x :: r, p, h => by
    by_cases e : x = c
    · subst e
      rw [spl_hit] at h
      rcases List.mem_cons.1 h with rfl | h
      · simp
      · exact spl_mem h
    · rw [spl_miss e] at h
      rcases List.mem_cons.1 h with rfl | h
      · intro k
        rcases List.mem_cons.1 k with k | k
        · exact e k.symm
        · exact spl_mem (hd_mem (spl_ne c r)) k
      · exact spl_mem (List.mem_of_mem_tail h)
/-- the pieces, joined -/
def jn (c : UInt8) : List (List UInt8) → List UInt8
  | [] => []
  | [p] => p
  | p :: q :: r => p ++ c :: jn c (q :: r)
theorem jn_cons {c : UInt8} {p : List UInt8} {l : List (List UInt8)} (h : l ≠ []) : jn c (p :: l) = p ++ c :: jn c l := by
  cases l with
  | nil => exact absurd rfl h
  | cons q r => rfl
theorem jn_spl (c : UInt8) : ∀ l : List UInt8, jn c (spl c l) = l
  | [] => rfl
  | x :: r => by
    have ih := jn_spl c r
    by_cases e : x = c
    · subst e; rw [spl_hit, jn_cons (spl_ne x r), ih]; rfl
    · rw [spl_miss e]
      have hn := spl_ne c r
      cases hs : spl c r with
      | nil => exact absurd hs hn
      | cons p q =>
        rw [hs] at ih
        simp only [List.headD_cons, List.tail_cons]
        cases q with
        | nil =>
          rw [show jn c [p] = p from rfl] at ih
          rw [show jn c [x :: p] = x :: p from rfl, ih]
        | cons q1 q2 =>
          rw [jn_cons (by simp)] at ih ⊢
          rw [List.cons_append, ih]
theorem spl_jn {c : UInt8} : ∀ {l : List (List UInt8)}, l ≠ [] → (∀ p, p ∈ l → c ∉ p) → spl c (jn c l) = l
  | [], h, _ => absurd rfl h
  | [p], _, h => spl_one (h p (List.mem_cons_self ..))
  | p :: q :: r, _, h => by
    rw [jn_cons (by simp), spl_cut (h p (List.mem_cons_self ..)), spl_jn (by simp) (fun a ha => h a (List.mem_cons_of_mem _ ha))]
theorem spl_len (c : UInt8) : ∀ l : List UInt8, (spl c l).length = l.count c + 1
  | [] => rfl
  | x :: r => by
    have ih := spl_len c r
    by_cases e : x = c
    · subst e; rw [spl_hit, List.length_cons, ih, List.count_cons_self]
    · rw [spl_miss e, List.length_cons, List.length_tail, ih, List.count_cons_of_ne (by simpa using e)]; omega
/-- the kit's own cutting, at one byte -/
theorem splK_one (c : UInt8) : ∀ (n : Nat) (l : List UInt8), l.length ≤ n → Lib.splitK [c] 0 (Lib.count l [c]) l = spl c l
  | n, l, hn => by
    by_cases hm : c ∈ l
    · obtain ⟨a, r, rfl, ha⟩ := cut_first hm
      have hix : Lib.index (a ++ c :: r) [c] = (a.length : Int) := ix_cut ha
      have hd : (a ++ c :: r).drop (a.length + 1) = r := by rw [List.drop_append]; simp
      have hct : Lib.count (a ++ c :: r) [c] = Lib.count r [c] + 1 := by
        rw [Lib.count_hit (by simp) hix]
        rw [List.length_singleton, hd, Nat.add_comm]
      rw [hct, Lib.splitK, if_neg (by rw [hix]; simp), hix, Int.toNat_natCast, List.length_singleton, hd, spl_cut ha]
      congr 1
      · simp
      · match n, hn with
        | 0, hn => simp at hn
        | n + 1, hn => exact splK_one c n r (by simp at hn; omega)
    · have hix : Lib.index l [c] = -1 := ix_none hm
      rw [Lib.count_miss hix, Lib.splitK, spl_one hm]
where
  cut_first {c : UInt8} : ∀ {l : List UInt8}, c ∈ l → ∃ a r, l = a ++ c :: r ∧ c ∉ a
    | [], h => by cases h
    | x :: l, h => by
      by_cases e : x = c
      · subst e; exact ⟨[], l, rfl, by simp⟩
      · obtain ⟨a, r, e1, e2⟩ := cut_first (l := l) ((List.mem_cons.1 h).resolve_left (fun k => e k.symm))
        exact ⟨x :: a, r, by rw [e1]; rfl, fun k => (List.mem_cons.1 k).elim (fun k => e k.symm) e2⟩
  ix_cut {c : UInt8} {r : List UInt8} : ∀ {a : List UInt8}, c ∉ a → Lib.index (a ++ c :: r) [c] = (a.length : Int)
    | [], _ => by rw [List.nil_append, Lib.index]; simp [List.isPrefixOf]
    | x :: a, h => by
      have hx : x ≠ c := fun e => h (by rw [e]; exact List.mem_cons_self ..)
      have ih := ix_cut (r := r) (a := a) (fun k => h (List.mem_cons_of_mem _ k))
      have hp : ([c] : List UInt8).isPrefixOf (x :: (a ++ c :: r)) = false := by simp [List.isPrefixOf, Ne.symm hx]
      rw [List.cons_append, Lib.index, hp, ih]
      have : ((a.length : Int) == -1) = false := by simp
      rw [this]; simp
  ix_none {c : UInt8} : ∀ {l : List UInt8}, c ∉ l → Lib.index l [c] = -1
    | [], _ => rfl
    | x :: l, h => by
      have hx : x ≠ c := fun e => h (by rw [e]; exact List.mem_cons_self ..)
      have ih := ix_none (l := l) (fun k => h (List.mem_cons_of_mem _ k))
      have hp : ([c] : List UInt8).isPrefixOf (x :: l) = false := by simp [List.isPrefixOf, Ne.symm hx]
      rw [Lib.index, hp, ih]; rfl
theorem splB_one (c : UInt8) (s : ByteArray) : (Lib.splitB ⟨#[c]⟩ 0 (Lib.countB s ⟨#[c]⟩) s).map (·.data.toList) = spl c s.data.toList := by
  rw [Lib.splitB_data]
  exact splK_one c _ _ (Nat.le_refl _)
theorem cntB_one (c : UInt8) (s : ByteArray) : Lib.countB s ⟨#[c]⟩ = s.data.toList.count c := Lib.count_one c _
/-- the lines of a text -/
def lnsE (l : List UInt8) : Int := if 1048576 < l.length then 3 else if l = [] then 0 else if l.getLast? ≠ some 10 then 6 else if 5000 < l.count 10 then 3 else 0
def lnsL (l : List UInt8) : List (List UInt8) := if lnsE l ≠ 0 ∨ l = [] then [] else spl 10 l.dropLast
end Go.Proofs.YtkklmljannclmaaDoor

namespace Go.Proofs.YtkklmljannclmaaDoor

/-- bytes that are written: from a least one to 126 -/
def prB (least : Nat) (l : List UInt8) : Bool := l.all (fun c => decide (least ≤ c.toNat) && decide (c.toNat ≤ 126))
/-- a text for people -/
def txB (l : List UInt8) : Bool := prB 32 l && decide (l.length ≤ 200)
theorem txB_yes {l : List UInt8} : txB l = true ↔ prB 32 l = true ∧ l.length ≤ 200 := by unfold txB; simp
/-- each quotation mark twice -/
def dbl : List UInt8 → List UInt8
  | [] => []
  | c :: r => if c = 34 then 34 :: 34 :: dbl r else c :: dbl r
theorem dbl_nil : dbl [] = [] := by rw [dbl]
theorem dbl_q (r : List UInt8) : dbl (34 :: r) = 34 :: 34 :: dbl r := by rw [dbl, if_pos rfl]
theorem dbl_c {c : UInt8} (r : List UInt8) (h : c ≠ 34) : dbl (c :: r) = c :: dbl r := by rw [dbl, if_neg h]
theorem dbl_append : ∀ (a b : List UInt8), dbl (a ++ b) = dbl a ++ dbl b
  | [], _ => by rw [dbl_nil]; rfl
  | c :: a, b => by
    by_cases h : c = 34
    · subst h; rw [List.cons_append, dbl_q, dbl_q, dbl_append a b]; rfl
    · rw [List.cons_append, dbl_c _ h, dbl_c _ h, dbl_append a b]; rfl
theorem dbl_len : ∀ l : List UInt8, l.length ≤ (dbl l).length ∧ (dbl l).length ≤ 2 * l.length
  | [] => by rw [dbl_nil]; simp
  | c :: a => by
    have := dbl_len a
    by_cases h : c = 34
    · subst h; rw [dbl_q]; simp only [List.length_cons]; omega
    · rw [dbl_c _ h]; simp only [List.length_cons]; omega
theorem dbl_count : ∀ l : List UInt8, (dbl l).length = l.length + l.count 34
  | [] => by rw [dbl_nil]; rfl
  | c :: a => by
    have := dbl_count a
    by_cases h : c = 34
    · subst h; rw [dbl_q, List.count_cons_self]; simp only [List.length_cons]; omega
    · rw [dbl_c _ h, List.count_cons_of_ne h]; simp only [List.length_cons]; omega
/-- marks that stand twice, once; none: one stands alone -/
def und : List UInt8 → Option (List UInt8)
  | [] => some []
  | [c] => if c = 34 then none else some [c]
  | c :: d :: r => if c = 34 then (if d = 34 then (und r).map (34 :: ·) else none) else (und (d :: r)).map (c :: ·)
theorem und_dbl : ∀ l : List UInt8, und (dbl l) = some l
  | [] => by rw [dbl_nil, und]
  | c :: r => by
    have ih := und_dbl r
    by_cases h : c = 34
    · subst h; rw [dbl_q, und, if_pos rfl, if_pos rfl, ih]; rfl
    · rw [dbl_c _ h]
      cases hd : dbl r with
      | nil =>
        rw [hd] at ih
        rw [und, if_neg h]
        rw [und] at ih
        cases ih; rfl
      | cons x y =>
        rw [und, if_neg h, ← hd, ih]; rfl
theorem dbl_und : ∀ (n : Nat) (l u : List UInt8), l.length ≤ n → und l = some u → dbl u = l
  | n, [], u, _, h => by rw [und] at h; cases h; exact dbl_nil
  | n, [c], u, _, h => by
    rw [und] at h
    by_cases e : c = 34
    · rw [if_pos e] at h; cases h
    · rw [if_neg e] at h; cases h; rw [dbl_c _ e, dbl_nil]
  | n + 1, c :: d :: r, u, hn, h => by
    simp only [List.length_cons] at hn
    rw [und] at h
    by_cases e : c = 34
    · subst e
      rw [if_pos rfl] at h
      by_cases k : d = 34
      · subst k
        rw [if_pos rfl] at h
        cases hr : und r with
        | none => rw [hr] at h; cases h
        | some v =>
          rw [hr] at h
          cases h
          show dbl (34 :: v) = _
          rw [dbl_q, dbl_und n r v (by omega) hr]
      · rw [if_neg k] at h; cases h
    · rw [if_neg e] at h
      cases hr : und (d :: r) with
      | none => rw [hr] at h; cases h
      | some v =>
        rw [hr] at h
        cases h
        show dbl (c :: v) = _
        rw [dbl_c _ e, dbl_und n (d :: r) v (by simp only [List.length_cons]; omega) hr]
  | 0, c :: d :: r, u, hn, h => by simp at hn
theorem dbl_inj {a b : List UInt8} (h : dbl a = dbl b) : a = b := by
  have h1 := und_dbl a
  rw [h, und_dbl b] at h1
  cases h1; rfl
/-- the quotation of a text -/
def qtL (l : List UInt8) : List UInt8 := 34 :: (dbl l ++ [34])
theorem qtL_inj {a b : List UInt8} (h : qtL a = qtL b) : a = b := by
  unfold qtL at h
  exact dbl_inj (List.append_cancel_right (List.cons.inj h).2)
/-- is there a quotation, but for the bytes within? -/
def quB (l : List UInt8) : Bool := decide (2 ≤ l.length) && (decide (l.head? = some 34) && decide (l.getLast? = some 34))
/-- what is within -/
def inn (l : List UInt8) : List UInt8 := l.tail.dropLast
theorem inn_qt (u : List UInt8) : inn (34 :: (u ++ [34])) = u := by unfold inn; simp
theorem quB_qt (u : List UInt8) : quB (34 :: (u ++ [34])) = true := by
  unfold quB
  simp only [List.length_cons, List.length_append, List.head?_cons, Bool.and_eq_true, decide_eq_true_eq]
  refine ⟨by omega, trivial, ?_⟩
  rw [← List.cons_append, List.getLast?_append]; simp
theorem quB_of {l : List UInt8} (h : quB l = true) : l = 34 :: (inn l ++ [34]) := by
  unfold quB at h
  simp only [Bool.and_eq_true, decide_eq_true_eq] at h
  obtain ⟨h1, h2, h3⟩ := h
  cases l with
  | nil => simp at h1
  | cons c r =>
    have hc : c = 34 := by simpa using h2
    subst hc
    have hr : r ≠ [] := by intro e; subst e; simp at h1
    unfold inn
    rw [List.tail_cons]
    congr 1
    have h4 : r.getLast hr = 34 := by
      rw [List.getLast?_eq_some_getLast (by simp), List.getLast_cons hr] at h3
      exact Option.some.inj h3
    conv => lhs; rw [← List.dropLast_concat_getLast hr]
    rw [h4]
/-- what Unquote answers: the text; none: ErrForm -/
def unq (l : List UInt8) : Option (List UInt8) := if quB l then (und (inn l)).filter txB else none
theorem unq_qt {u : List UInt8} (h : txB u = true) : unq (qtL u) = some u := by
  unfold unq qtL
  rw [quB_qt, if_pos rfl, inn_qt, und_dbl, Option.filter_some, if_pos h]
theorem unq_some {l u : List UInt8} (h : unq l = some u) : txB u = true ∧ qtL u = l := by
  unfold unq at h
  cases hq : quB l
  · rw [hq] at h; cases h
  · rw [hq, if_pos rfl] at h
    cases hu : und (inn l) with
    | none => rw [hu] at h; cases h
    | some v =>
      rw [hu, Option.filter_some] at h
      cases ht : txB v
      · rw [ht] at h; cases h
      · rw [ht, if_pos rfl] at h
        cases h
        exact ⟨ht, by unfold qtL; rw [dbl_und _ _ _ (Nat.le_refl _) hu]; exact (quB_of hq).symm⟩
theorem unq_none {l : List UInt8} (h : unq l = none) (u : List UInt8) (hu : txB u = true) : qtL u ≠ l := by
  rintro rfl
  rw [unq_qt hu] at h; cases h

/-- ReplaceAll of two marks by one, from the left -/
def rpq : List UInt8 → List UInt8
  | [] => []
  | [c] => [c]
  | c :: d :: r => if c = 34 ∧ d = 34 then 34 :: rpq r else c :: rpq (d :: r)
theorem rpq_dbl : ∀ l : List UInt8, rpq (dbl l) = l
  | [] => by rw [dbl_nil, rpq]
  | c :: r => by
    have ih := rpq_dbl r
    by_cases h : c = 34
    · subst h; rw [dbl_q, rpq, if_pos ⟨rfl, rfl⟩, ih]
    · rw [dbl_c _ h]
      cases hd : dbl r with
      | nil =>
        rw [hd, rpq] at ih
        rw [rpq, ih]
      | cons x y =>
        rw [rpq, if_neg (fun k => h k.1), ← hd, ih]
theorem rpq_miss {l : List UInt8} : Lib.index l [34, 34] = -1 → rpq l = l := by
  induction l with
  | nil => intro _; rw [rpq]
  | cons c r ih =>
    intro h
    rw [Lib.index] at h
    split at h
    · cases h
    · rename_i hp
      have hr : Lib.index r [34, 34] = -1 := by
        split at h
        · rename_i h1; simpa using h1
        · have := Lib.index_ge r [34, 34]; rename_i h1; simp at h1; omega
      cases r with
      | nil => rw [rpq]
      | cons d t =>
        rw [rpq, if_neg, ih hr]
        rintro ⟨rfl, rfl⟩
        simp [List.isPrefixOf] at hp
theorem rpq_hit {l : List UInt8} : ∀ {i : Nat}, Lib.index l [34, 34] = (i : Int) → rpq l = l.take i ++ [34] ++ rpq (l.drop (i + 2)) := by
  induction l with
  | nil => intro i h; rw [Lib.index] at h; simp at h
  | cons c r ih =>
    intro i h
    rw [Lib.index] at h
    split at h
    · rename_i hp
      obtain rfl : i = 0 := by omega
      cases r with
      | nil => simp [List.isPrefixOf] at hp
      | cons d t =>
        simp [List.isPrefixOf] at hp
        obtain ⟨rfl, rfl⟩ := hp
        rw [rpq, if_pos ⟨rfl, rfl⟩]
        rfl
    · rename_i hp
      split at h
      · omega
      · obtain ⟨j, hj⟩ : ∃ j : Nat, Lib.index r [34, 34] = (j : Int) := ⟨(Lib.index r [34, 34]).toNat, by have := Lib.index_ge r [34, 34]; rename_i h1; simp at h1; omega⟩
        obtain rfl : i = j + 1 := by omega
        have := ih hj
        cases r with
        | nil => rw [Lib.index] at hj; simp at hj
        | cons d t =>
          rw [rpq, if_neg, this]
          · rw [List.take_succ_cons, show j + 1 + 2 = (j + 2) + 1 by omega, List.drop_succ_cons]; simp
          · rintro ⟨rfl, rfl⟩
            simp [List.isPrefixOf] at hp
theorem rpqK (n : Nat) : ∀ l : List UInt8, l.length ≤ n → Lib.replaceK [34, 34] [34] (Lib.count l [34, 34]) l = rpq l := by
  induction n with
  | zero =>
    intro l h
    have : l = [] := List.length_eq_zero_iff.1 (by omega)
    subst this
    have hx : Lib.index [] [34, 34] = -1 := rfl
    rw [Lib.count_miss hx, Lib.replaceK, rpq]
  | succ n ih =>
    intro l h
    by_cases hx : Lib.index l [34, 34] = -1
    · rw [Lib.count_miss hx, Lib.replaceK, rpq_miss hx]
    · obtain ⟨i, hi⟩ : ∃ i : Nat, Lib.index l [34, 34] = (i : Int) := ⟨(Lib.index l [34, 34]).toNat, by have := Lib.index_ge l [34, 34]; omega⟩
      have hr := Lib.index_room l [34, 34] (by omega)
      rw [Lib.count_hit (by simp) hi, Nat.add_comm 1, Lib.replaceK_hit _ _ _ _ _ hi, rpq_hit hi]
      rw [show ([34, 34] : List UInt8).length = 2 from rfl]
      rw [ih _ (by rw [List.length_drop]; rw [show ([34, 34] : List UInt8).length = 2 from rfl] at hr; omega)]
theorem rpq_all (l : List UInt8) : Lib.replaceAll l [34, 34] [34] = rpq l := by
  unfold Lib.replaceAll Lib.replace
  rw [if_neg (by decide)]
  unfold Lib.replaceNum
  rw [if_pos (.inl (by decide))]
  exact rpqK _ _ (Nat.le_refl _)
/-- ReplaceAll of one mark by two -/
theorem dblK (n : Nat) : ∀ l : List UInt8, l.length ≤ n → Lib.replaceK [34] [34, 34] (Lib.count l [34]) l = dbl l := by
  induction n with
  | zero =>
    intro l h
    have : l = [] := List.length_eq_zero_iff.1 (by omega)
    subst this
    have hx : Lib.index [] [34] = -1 := rfl
    rw [Lib.count_miss hx, Lib.replaceK, dbl_nil]
  | succ n ih =>
    intro l h
    by_cases hm : (34 : UInt8) ∈ l
    · obtain ⟨a, r, rfl, ha⟩ := splK_one.cut_first hm
      have hix := splK_one.ix_cut (r := r) ha
      have hd : (a ++ 34 :: r).drop (a.length + 1) = r := by rw [List.drop_append]; simp
      rw [Lib.count_hit (by simp) hix, Nat.add_comm 1, Lib.replaceK_hit _ _ _ _ _ hix]
      rw [show ([34] : List UInt8).length = 1 from rfl, hd, ih r (by simp at h; omega)]
      rw [dbl_append, dbl_q]
      have : dbl a = a := dbl_none ha
      rw [this]; simp
    · have hx : Lib.index l [34] = -1 := splK_one.ix_none hm
      rw [Lib.count_miss hx, Lib.replaceK, dbl_none hm]
where
  dbl_none : ∀ {l : List UInt8}, (34 : UInt8) ∉ l → dbl l = l
    | [], _ => dbl_nil
    | c :: r, h => by
      have h1 : c ≠ 34 := fun e => h (by rw [e]; exact List.mem_cons_self ..)
      rw [dbl_c _ h1, dbl_none (fun k => h (List.mem_cons_of_mem _ k))]
theorem dbl_all (l : List UInt8) : Lib.replaceAll l [34] [34, 34] = dbl l := by
  unfold Lib.replaceAll Lib.replace
  rw [if_neg (by decide)]
  unfold Lib.replaceNum
  rw [if_pos (.inl (by decide))]
  exact dblK _ _ (Nat.le_refl _)
end Go.Proofs.YtkklmljannclmaaDoor

namespace Go.Proofs.YtkklmljannclmaaDoor

/-- how far a quotation goes, behind its first mark -/
def qend : List UInt8 → Nat
  | [] => 0
  | [_] => 1
  | c :: d :: r => if c = 34 then (if d = 34 then 2 + qend r else 1) else 1 + qend (d :: r)
theorem qend_q (r : List UInt8) : qend (34 :: 34 :: r) = 2 + qend r := by rw [qend, if_pos rfl, if_pos rfl]
theorem qend_e {d : UInt8} (r : List UInt8) (h : d ≠ 34) : qend (34 :: d :: r) = 1 := by rw [qend, if_pos rfl, if_neg h]
theorem qend_c {c : UInt8} (r : List UInt8) (h : c ≠ 34) : qend (c :: r) = 1 + qend r := by
  cases r with
  | nil => rfl
  | cons d t => rw [qend, if_neg h]
theorem qend_le (n : Nat) : ∀ l : List UInt8, l.length ≤ n → qend l ≤ l.length := by
  induction n with
  | zero =>
    intro l h
    obtain rfl : l = [] := List.length_eq_zero_iff.1 (by omega)
    exact Nat.le_refl _
  | succ n ih =>
    intro l h
    match l, h with
    | [], _ => exact Nat.le_refl _
    | [c], _ => exact Nat.le_refl _
    | c :: d :: r, h =>
      simp only [List.length_cons] at h ⊢
      by_cases hc : c = 34
      · subst hc
        by_cases hd : d = 34
        · subst hd; rw [qend_q]; have := ih r (by omega); omega
        · rw [qend_e r hd]; omega
      · rw [qend_c _ hc]; have := ih (d :: r) (by simp only [List.length_cons]; omega); simp only [List.length_cons] at this; omega
/-- how far a field goes -/
def uend (l : List UInt8) : Nat := (l.takeWhile (fun c => decide (c ≠ 32))).length
theorem uend_nil : uend [] = 0 := rfl
theorem uend_b (r : List UInt8) : uend (32 :: r) = 0 := rfl
theorem uend_c {c : UInt8} (r : List UInt8) (h : c ≠ 32) : uend (c :: r) = 1 + uend r := by
  unfold uend
  rw [List.takeWhile_cons, if_pos (by simpa using h), List.length_cons, Nat.add_comm]
theorem uend_le : ∀ l : List UInt8, uend l ≤ l.length
  | [] => Nat.le_refl _
  | c :: r => by
    have := uend_le r
    by_cases h : c = 32
    · subst h; rw [uend_b]; simp
    · rw [uend_c r h, List.length_cons]; omega
def fend (l : List UInt8) : Nat := if l.head? = some 34 then 1 + qend l.tail else uend l
theorem fend_q (r : List UInt8) : fend (34 :: r) = 1 + qend r := by unfold fend; rw [if_pos (by rfl)]; rfl
theorem fend_u {c : UInt8} (r : List UInt8) (h : c ≠ 34) : fend (c :: r) = uend (c :: r) := by
  unfold fend; rw [if_neg]; simpa using h
theorem fend_le (l : List UInt8) : fend l ≤ l.length := by
  cases l with
  | nil => exact Nat.le_refl _
  | cons c r =>
    by_cases h : c = 34
    · subst h; rw [fend_q, List.length_cons]; have := qend_le _ r (Nat.le_refl _); omega
    · rw [fend_u r h]; exact uend_le _
/-- is that an unquoted field? -/
def rtB (l : List UInt8) : Bool := decide (l ≠ []) && (l.all (fun c => decide (c ≠ 32) && decide (c ≠ 34)) && txB l)
theorem rtB_yes {l : List UInt8} : rtB l = true ↔ l ≠ [] ∧ ((32 : UInt8) ∉ l ∧ (34 : UInt8) ∉ l) ∧ txB l = true := by
  unfold rtB
  simp only [Bool.and_eq_true, decide_eq_true_eq, List.all_eq_true]
  refine and_congr_right fun _ => and_congr_left fun _ => ⟨fun h => ⟨fun hm => (h _ hm).1 rfl, fun hm => (h _ hm).2 rfl⟩, fun h x hx => ⟨fun e => h.1 (e ▸ hx), fun e => h.2 (e ▸ hx)⟩⟩
/-- a field: is it quoted, and its text -/
abbrev Fl := Bool × List UInt8
/-- the first field that is written -/
def fld1 (t : List UInt8) : Option Fl := if t.head? = some 34 then (unq t).map (fun u => (true, u)) else if rtB t then some (false, t) else none
/-- is that a field? -/
def flB (x : Fl) : Bool := if x.1 then txB x.2 else rtB x.2
theorem fld1_some {t : List UInt8} {x : Fl} (h : fld1 t = some x) : flB x = true ∧ (x.1 = false → x.2 = t) ∧ (x.1 = true → qtL x.2 = t) := by
  unfold fld1 at h
  split at h
  · cases hu : unq t with
    | none => rw [hu] at h; cases h
    | some u =>
      rw [hu] at h
      cases h
      obtain ⟨h1, h2⟩ := unq_some hu
      exact ⟨h1, by simp, fun _ => h2⟩
  · split at h
    · rename_i hr
      cases h
      exact ⟨hr, fun _ => rfl, by simp⟩
    · cases h
/-- the fields of a line; none: ErrForm (the number: at least the line's length) -/
def splF : Nat → List UInt8 → Option (List Fl)
  | _, [] => some []
  | 0, _ :: _ => none
  | n + 1, c :: r =>
    match fld1 ((c :: r).take (fend (c :: r))) with
    | none => none
    | some x =>
      match (c :: r).drop (fend (c :: r)) with
      | [] => some [x]
      | [_] => none
      | d :: e :: t => if d = 32 then (splF n (e :: t)).map (x :: ·) else none
def splE (l : List UInt8) : Int := if 4096 < l.length then 3 else match splF l.length l with
  | none => 6
  | some f => if 64 < f.length then 3 else 0
def splR (l : List UInt8) : List Fl := if splE l = 0 then (splF l.length l).getD [] else []
theorem splF_nil (n : Nat) : splF n [] = some [] := by cases n <;> rfl
theorem fend_pos {c : UInt8} {r : List UInt8} (h : fld1 ((c :: r).take (fend (c :: r))) ≠ none) : 1 ≤ fend (c :: r) := by
  rcases Nat.eq_zero_or_pos (fend (c :: r)) with h0 | h0
  · rw [h0] at h
    exact absurd rfl h
  · exact h0
theorem splF_more : ∀ (n : Nat) (l : List UInt8), l.length ≤ n → ∀ m, l.length ≤ m → splF n l = splF m l
  | n, [], _, m, _ => by rw [splF_nil, splF_nil]
  | n + 1, c :: r, hn, m, hm => by
    cases m with
    | zero => simp at hm
    | succ m =>
      rw [splF, splF]
      cases hx : fld1 ((c :: r).take (fend (c :: r))) with
      | none => rfl
      | some x =>
        have hp := fend_pos (c := c) (r := r) (by rw [hx]; simp)
        dsimp only
        cases hd : (c :: r).drop (fend (c :: r)) with
        | nil => rfl
        | cons d t =>
          cases t with
          | nil => rfl
          | cons e t =>
            have hl := congrArg List.length hd
            simp only [List.length_drop, List.length_cons] at hl hn hm
            dsimp only
            rw [splF_more n (e :: t) (by simp only [List.length_cons]; omega) m (by simp only [List.length_cons]; omega)]
  | 0, c :: r, hn, m, hm => by simp at hn
/-- a line of unquoted fields -/
theorem uend_take {p : List UInt8} (h : (32 : UInt8) ∉ p) (r : List UInt8) : uend (p ++ 32 :: r) = p.length := by
  induction p with
  | nil => rfl
  | cons c p ih =>
    have hc : c ≠ 32 := fun e => h (by rw [e]; exact List.mem_cons_self ..)
    rw [List.cons_append, uend_c _ hc, ih (fun k => h (List.mem_cons_of_mem _ k)), List.length_cons, Nat.add_comm]
theorem uend_all {p : List UInt8} (h : (32 : UInt8) ∉ p) : uend p = p.length := by
  induction p with
  | nil => rfl
  | cons c p ih =>
    have hc : c ≠ 32 := fun e => h (by rw [e]; exact List.mem_cons_self ..)
    rw [uend_c _ hc, ih (fun k => h (List.mem_cons_of_mem _ k)), List.length_cons, Nat.add_comm]
theorem fld1_rt {t : List UInt8} (h : rtB t = true) : fld1 t = some (false, t) := by
  have h' := rtB_yes.1 h
  unfold fld1
  rw [if_neg, if_pos h]
  intro e
  cases t with
  | nil => cases e
  | cons c r => exact h'.2.1.2 (by rw [List.head?_cons] at e; cases e; exact List.mem_cons_self ..)
theorem splF_jn : ∀ (P : List (List UInt8)) (n : Nat), P ≠ [] → (∀ p, p ∈ P → rtB p = true) → (jn 32 P).length ≤ n → splF n (jn 32 P) = some (P.map fun p => (false, p))
  | [], _, h, _, _ => absurd rfl h
  | [p], n, _, hp, hn => by
    have hr := hp p (List.mem_cons_self ..)
    have h' := rtB_yes.1 hr
    show splF n p = _
    have hn' : p.length ≤ n := hn
    cases p with
    | nil => exact absurd rfl h'.1
    | cons c r =>
      have hc : c ≠ 34 := fun e => h'.2.1.2 (by rw [e]; exact List.mem_cons_self ..)
      have hf : fend (c :: r) = (c :: r).length := by rw [fend_u r hc, uend_all h'.2.1.1]
      cases n with
      | zero => simp at hn'
      | succ n =>
        rw [splF, hf, List.take_length, List.drop_length, fld1_rt hr]
        rfl
  | p :: q :: P, n, _, hp, hn => by
    have hr := hp p (List.mem_cons_self ..)
    have h' := rtB_yes.1 hr
    have ih := splF_jn (q :: P) (n - 1) (by simp) (fun a ha => hp a (List.mem_cons_of_mem _ ha))
    rw [jn_cons (by simp)] at hn ⊢
    rw [List.length_append, List.length_cons] at hn
    have hj : jn 32 (q :: P) ≠ [] := by
      have hq := (rtB_yes.1 (hp q (by simp))).1
      cases P with
      | nil => exact hq
      | cons a b => rw [jn_cons (by simp)]; simp
    have ih := ih (by omega)
    generalize jn 32 (q :: P) = J at ih hj hn
    cases p with
    | nil => exact absurd rfl h'.1
    | cons c r =>
      have hc : c ≠ 34 := fun e => h'.2.1.2 (by rw [e]; exact List.mem_cons_self ..)
      have hf : fend (c :: r ++ 32 :: J) = (c :: r).length := by
        rw [List.cons_append, fend_u _ hc, ← List.cons_append, uend_take h'.2.1.1]
      cases n with
      | zero => simp at hn
      | succ n =>
        rw [List.cons_append, splF, ← List.cons_append, hf, List.take_left' rfl, List.drop_left' rfl, fld1_rt hr]
        dsimp only
        cases J with
        | nil => exact absurd rfl hj
        | cons e t =>
          dsimp only
          rw [if_pos rfl]
          rw [Nat.add_sub_cancel] at ih
          rw [ih]
          rfl
/-- a line whose fields are all unquoted is these, joined -/
theorem splF_un : ∀ (n : Nat) (l : List UInt8) (fs : List Fl), splF n l = some fs → (∀ x, x ∈ fs → x.1 = false) → l = jn 32 (fs.map (·.2)) ∧ (∀ x, x ∈ fs → rtB x.2 = true) ∧ (l ≠ [] → fs ≠ [])
  | n, [], fs, h, _ => by
    rw [splF_nil] at h
    cases h
    exact ⟨rfl, by simp, fun h => absurd rfl h⟩
  | 0, c :: r, fs, h, _ => by cases h
  | n + 1, c :: r, fs, h, hu => by
    rw [splF] at h
    cases hx : fld1 ((c :: r).take (fend (c :: r))) with
    | none => rw [hx] at h; cases h
    | some x =>
      obtain ⟨f1, f2, _⟩ := fld1_some hx
      rw [hx] at h
      dsimp only at h
      have htd := List.take_append_drop (fend (c :: r)) (c :: r)
      have key : x.1 = false → rtB x.2 = true ∧ x.2 = (c :: r).take (fend (c :: r)) := fun e => by
        unfold flB at f1
        rw [e] at f1
        exact ⟨f1, f2 e⟩
      cases hd : (c :: r).drop (fend (c :: r)) with
      | nil =>
        rw [hd] at h htd
        cases h
        obtain ⟨k1, k2⟩ := key (hu x (by simp))
        refine ⟨?_, fun y hy => by rw [List.mem_singleton.1 hy]; exact k1, fun _ => by simp⟩
        show _ = x.2
        rw [List.append_nil] at htd
        rw [k2]; exact htd.symm
      | cons d t =>
        cases t with
        | nil => rw [hd] at h; cases h
        | cons e t =>
          rw [hd] at h htd
          dsimp only at h
          by_cases h32 : d = 32
          · subst h32
            rw [if_pos rfl] at h
            cases hs : splF n (e :: t) with
            | none => rw [hs] at h; cases h
            | some gs =>
              rw [hs] at h
              cases h
              obtain ⟨k1, k2⟩ := key (hu x (by simp))
              obtain ⟨i1, i2, i3⟩ := splF_un n (e :: t) gs hs (fun y hy => hu y (List.mem_cons_of_mem _ hy))
              refine ⟨?_, fun y hy => ?_, fun _ => by simp⟩
              · rw [List.map_cons, jn_cons (by simpa using i3 (by simp)), ← i1, k2]
                exact htd.symm
              · rcases List.mem_cons.1 hy with rfl | hy
                · exact k1
                · exact i2 y hy
          · rw [if_neg h32] at h; cases h
end Go.Proofs.YtkklmljannclmaaDoor

namespace Go.Proofs.YtkklmljannclmaaDoor

/-- is that a digit? -/
def dgC (c : UInt8) : Bool := decide (48 ≤ c.toNat) && decide (c.toNat ≤ 57)
theorem dgC_yes {c : UInt8} : dgC c = true ↔ 48 ≤ c.toNat ∧ c.toNat ≤ 57 := by unfold dgC; simp
/-- the number that digits spell -/
def valN (acc : Nat) (l : List UInt8) : Nat := l.foldl (fun a c => 10 * a + (c.toNat - 48)) acc
theorem valN_nil (a : Nat) : valN a [] = a := by unfold valN; rw [List.foldl_nil]
theorem valN_cons (a : Nat) (c : UInt8) (r : List UInt8) : valN a (c :: r) = valN (10 * a + (c.toNat - 48)) r := by unfold valN; rw [List.foldl_cons]
theorem valN_snoc (c : UInt8) : ∀ (l : List UInt8) (a : Nat), valN a (l ++ [c]) = 10 * valN a l + (c.toNat - 48)
  | [], _ => by rw [List.nil_append, valN_cons, valN_nil, valN_nil]
  | x :: r, a => by rw [List.cons_append, valN_cons, valN_cons]; exact valN_snoc c r _
theorem valN_ge : ∀ (l : List UInt8) (a : Nat), a ≤ valN a l
  | [], _ => Nat.le_refl _
  | x :: r, a => Nat.le_trans (by omega) (valN_ge r (10 * a + (x.toNat - 48)))
theorem valN_pow : ∀ (l : List UInt8) (a : Nat), a * 10 ^ l.length ≤ valN a l
  | [], a => by rw [valN_nil, List.length_nil, Nat.pow_zero, Nat.mul_one]; exact Nat.le_refl _
  | x :: r, a => by
    have h := valN_pow r (10 * a + (x.toNat - 48))
    rw [valN_cons]
    refine Nat.le_trans ?_ h
    rw [List.length_cons, Nat.pow_succ, Nat.mul_comm (10 ^ r.length) 10, ← Nat.mul_assoc]
    exact Nat.mul_le_mul_right _ (by omega)
theorem valN_lt : ∀ (l : List UInt8) (a : Nat), l.all dgC = true → valN a l < (a + 1) * 10 ^ l.length
  | [], a, _ => by rw [valN_nil, List.length_nil, Nat.pow_zero, Nat.mul_one]; exact Nat.lt_succ_self _
  | x :: r, a, h => by
    simp only [List.all_cons, Bool.and_eq_true] at h
    have h1 := dgC_yes.1 h.1
    have h2 := valN_lt r (10 * a + (x.toNat - 48)) h.2
    rw [valN_cons]
    refine Nat.lt_of_lt_of_le h2 ?_
    rw [List.length_cons, Nat.pow_succ, Nat.mul_comm (10 ^ r.length) 10, ← Nat.mul_assoc]
    exact Nat.mul_le_mul_right _ (by omega)
/-- the digits of a number from 0 on, as it is written -/
def natB (l : List UInt8) : Bool := l.all dgC && (decide (l ≠ []) && (decide (l.length = 1) || decide (l.head? ≠ some 48)))
theorem natB_dig {l : List UInt8} (h : natB l = true) : l.all dgC = true := by
  unfold natB at h; simp only [Bool.and_eq_true] at h; exact h.1
theorem natB_ne {l : List UInt8} (h : natB l = true) : l ≠ [] := by
  unfold natB at h; simp only [Bool.and_eq_true, decide_eq_true_eq] at h; exact h.2.1
theorem natB_head {l : List UInt8} (h : natB l = true) (k : 2 ≤ l.length) : l.head? ≠ some 48 := by
  unfold natB at h
  simp only [Bool.and_eq_true, decide_eq_true_eq, Bool.or_eq_true] at h
  rcases h.2.2 with h | h
  · omega
  · exact h
theorem natB_of {l : List UInt8} (h1 : l.all dgC = true) (h2 : l ≠ []) (h3 : l.length = 1 ∨ l.head? ≠ some 48) : natB l = true := by
  unfold natB
  simp only [Bool.and_eq_true, decide_eq_true_eq, Bool.or_eq_true]
  exact ⟨h1, h2, h3⟩
/-- digits that do not begin with 0 spell a great number -/
theorem val_big {l : List UInt8} (h : l.all dgC = true) (h0 : l ≠ []) (h1 : l.head? ≠ some 48) : 10 ^ (l.length - 1) ≤ valN 0 l := by
  cases l with
  | nil => exact absurd rfl h0
  | cons x r =>
    simp only [List.all_cons, Bool.and_eq_true] at h
    have hx := dgC_yes.1 h.1
    have hne : x.toNat ≠ 48 := fun e => h1 (by rw [List.head?_cons]; congr 1; exact UInt8.toNat_inj.1 e)
    have := valN_pow r (10 * 0 + (x.toNat - 48))
    rw [valN_cons]
    refine Nat.le_trans ?_ this
    rw [List.length_cons, Nat.add_sub_cancel]
    exact Nat.le_mul_of_pos_left _ (by omega)
theorem toNat_dg {d : Nat} (h : d < 10) : (UInt8.ofNat (48 + d)).toNat = 48 + d := by
  rw [UInt8.toNat_ofNat']; omega
theorem dec_dig : ∀ n : Nat, (Lib.decDigits n).all dgC = true := by
  intro n
  induction n using Nat.strongRecOn with
  | ind n ih =>
    rw [Lib.decDigits]
    by_cases h : n < 10
    · rw [dif_pos h]
      simp only [List.all_cons, List.all_nil, Bool.and_true]
      rw [dgC_yes, toNat_dg h]; omega
    · rw [dif_neg h, List.all_append, ih (n / 10) (by omega)]
      simp only [List.all_cons, List.all_nil, Bool.and_true, Bool.true_and]
      rw [dgC_yes, toNat_dg (by omega)]; omega
theorem dec_val : ∀ n : Nat, valN 0 (Lib.decDigits n) = n := by
  intro n
  induction n using Nat.strongRecOn with
  | ind n ih =>
    rw [Lib.decDigits]
    by_cases h : n < 10
    · rw [dif_pos h]
      show 10 * 0 + ((UInt8.ofNat (48 + n)).toNat - 48) = n
      rw [toNat_dg h]; omega
    · rw [dif_neg h, valN_snoc, ih (n / 10) (by omega), toNat_dg (by omega)]
      omega
theorem dec_ne (n : Nat) : Lib.decDigits n ≠ [] := by
  rw [Lib.decDigits]
  by_cases h : n < 10
  · rw [dif_pos h]; simp
  · rw [dif_neg h]; simp
theorem hd_app {a b : List UInt8} (h : a ≠ []) : (a ++ b).head? = a.head? := by
  cases a with
  | nil => exact absurd rfl h
  | cons x r => rfl
theorem dec_head : ∀ n : Nat, 1 ≤ n → (Lib.decDigits n).head? ≠ some 48 := by
  intro n
  induction n using Nat.strongRecOn with
  | ind n ih =>
    intro h1
    rw [Lib.decDigits]
    by_cases h : n < 10
    · rw [dif_pos h, List.head?_cons]
      intro e
      have := congrArg (fun x => x.toNat) (Option.some.inj e)
      rw [toNat_dg h] at this
      have h48 : (48 : UInt8).toNat = 48 := rfl
      omega
    · rw [dif_neg h, hd_app (dec_ne _)]
      exact ih (n / 10) (by omega) (by omega)
theorem dec_natB (n : Nat) : natB (Lib.decDigits n) = true := by
  refine natB_of (dec_dig n) (dec_ne n) ?_
  by_cases h : n < 10
  · left; rw [Lib.decDigits, dif_pos h]; rfl
  · right; exact dec_head n (by omega)
theorem val_pos {l : List UInt8} (h : l.all dgC = true) (h0 : l ≠ []) (h1 : l.head? ≠ some 48) : 1 ≤ valN 0 l :=
  Nat.le_trans (Nat.pow_pos (by decide)) (val_big h h0 h1)
theorem dec_of : ∀ (k : Nat) (l : List UInt8), l.length = k → natB l = true → Lib.decDigits (valN 0 l) = l
  | 0, l, hk, h => absurd (List.length_eq_zero_iff.1 hk) (natB_ne h)
  | 1, l, hk, h => by
    match l, hk with
    | [c], _ => ?_
    have h1 := natB_dig h
    simp only [List.all_cons, List.all_nil, Bool.and_true] at h1
    have h1 := dgC_yes.1 h1
    show Lib.decDigits (10 * 0 + (c.toNat - 48)) = [c]
    rw [Lib.decDigits, dif_pos (by omega)]
    congr 1
    apply UInt8.toNat_inj.1
    rw [toNat_dg (by omega)]; omega
  | k + 2, l, hk, h => by
    have hne : l ≠ [] := natB_ne h
    have hd := natB_dig h
    have hh := natB_head h (by omega)
    obtain ⟨r, c, rfl⟩ : ∃ r c, l = r ++ [c] := ⟨l.dropLast, l.getLast hne, (List.dropLast_concat_getLast hne).symm⟩
    simp only [List.length_append, List.length_cons, List.length_nil] at hk
    have hr : r ≠ [] := by intro e; rw [e] at hk; simp at hk
    rw [hd_app hr] at hh
    simp only [List.all_append, List.all_cons, List.all_nil, Bool.and_true, Bool.and_eq_true] at hd
    have hc := dgC_yes.1 hd.2
    have hv := val_pos hd.1 hr hh
    have ih := dec_of (k + 1) r (by omega) (natB_of hd.1 hr (.inr hh))
    rw [valN_snoc, Lib.decDigits, dif_neg (by omega)]
    rw [show (10 * valN 0 r + (c.toNat - 48)) / 10 = valN 0 r by omega, show (10 * valN 0 r + (c.toNat - 48)) % 10 = c.toNat - 48 by omega, ih]
    congr 2
    apply UInt8.toNat_inj.1
    rw [toNat_dg (by omega)]; omega

/-- a minus in front? -/
def ngB (l : List UInt8) : Bool := decide (l.head? = some 45)
def absL (l : List UInt8) : List UInt8 := if ngB l then l.tail else l
/-- the digits of a whole number, as it is written -/
def wholeB (l : List UInt8) : Bool := natB (absL l) && !(ngB l && decide (absL l = [48]))
def valZ (l : List UInt8) : Int := if ngB l then -(valN 0 (absL l) : Int) else valN 0 (absL l)
theorem ngB_cons (c : UInt8) (r : List UInt8) : ngB (c :: r) = decide (c.toNat = 45) := by
  unfold ngB
  rw [List.head?_cons, Bool.eq_iff_iff]
  simp only [decide_eq_true_eq, Option.some.injEq]
  constructor
  · rintro rfl; rfl
  · intro h; exact UInt8.toNat_inj.1 h
theorem ngB_dig {l : List UInt8} (h : l.all dgC = true) : ngB l = false := by
  cases l with
  | nil => rfl
  | cons c r =>
    rw [ngB_cons]
    simp only [List.all_cons, Bool.and_eq_true] at h
    have := dgC_yes.1 h.1
    exact decide_eq_false (by omega)
theorem absL_nat {l : List UInt8} (h : natB l = true) : absL l = l := by unfold absL; rw [ngB_dig (natB_dig h)]; rfl
theorem whole_nat {l : List UInt8} (h : natB l = true) : wholeB l = true := by
  unfold wholeB; rw [absL_nat h, h, ngB_dig (natB_dig h)]; rfl
theorem valZ_nat {l : List UInt8} (h : natB l = true) : valZ l = valN 0 l := by
  unfold valZ; rw [absL_nat h, ngB_dig (natB_dig h)]; rfl
/-- a whole number's digits are its digits -/
theorem itoa_valZ {l : List UInt8} (h : wholeB l = true) : Lib.itoa (valZ l) = l := by
  unfold wholeB at h
  simp only [Bool.and_eq_true, Bool.not_eq_true', Bool.and_eq_false_iff, decide_eq_false_iff_not] at h
  obtain ⟨h1, h2⟩ := h
  unfold valZ
  cases hn : ngB l
  · have ha : absL l = l := by unfold absL; rw [hn]; rfl
    rw [ha] at h1 ⊢
    rw [if_neg (by simp), Lib.itoa_nonneg]
    exact dec_of _ l rfl h1
  · have ha : absL l = l.tail := by unfold absL; rw [hn]; rfl
    have h3 : absL l ≠ [48] := by
      rcases h2 with h2 | h2
      · rw [hn] at h2; cases h2
      · exact h2
    rw [if_pos rfl]
    have hpos : 1 ≤ valN 0 (absL l) := by
      by_cases hl : (absL l).length = 1
      · match h4 : absL l, hl with
        | [c], _ => ?_
        rw [h4] at h1 h3
        have h5 := natB_dig h1
        simp only [List.all_cons, List.all_nil, Bool.and_true] at h5
        have h5 := dgC_yes.1 h5
        show 1 ≤ 10 * 0 + (c.toNat - 48)
        have : c.toNat ≠ 48 := fun e => h3 (by congr 1; exact UInt8.toNat_inj.1 e)
        omega
      · have h4 : 2 ≤ (absL l).length := by
          have := List.length_pos_iff.2 (natB_ne h1)
          omega
        exact val_pos (natB_dig h1) (natB_ne h1) (natB_head h1 h4)
    rw [Lib.itoa_neg _ hpos, dec_of _ _ rfl h1, ha]
    cases l with
    | nil => cases hn
    | cons c r =>
      rw [ngB_cons] at hn
      have : c.toNat = 45 := by simpa using hn
      rw [List.tail_cons]
      congr 1
      exact UInt8.toNat_inj.1 this.symm
theorem ngB_45 (r : List UInt8) : ngB (45 :: r) = true := rfl
theorem itoa_whole (n : Int) : wholeB (Lib.itoa n) = true := by
  rcases (show n < 0 ∨ 0 ≤ n by omega) with h | h
  · obtain ⟨u, hu, rfl⟩ : ∃ u : Nat, 1 ≤ u ∧ n = -(u : Int) := ⟨n.natAbs, by omega, by omega⟩
    rw [Lib.itoa_neg u hu]
    unfold wholeB
    rw [show absL (45 :: Lib.decDigits u) = Lib.decDigits u from rfl, dec_natB, ngB_45]
    simp only [Bool.true_and, Bool.not_eq_true', decide_eq_false_iff_not]
    intro e
    exact dec_head u hu (by rw [e]; rfl)
  · obtain ⟨u, rfl⟩ : ∃ u : Nat, n = (u : Int) := ⟨n.toNat, by omega⟩
    rw [Lib.itoa_nonneg]
    exact whole_nat (dec_natB u)
theorem valZ_itoa (n : Int) : valZ (Lib.itoa n) = n := by
  rcases (show n < 0 ∨ 0 ≤ n by omega) with h | h
  · obtain ⟨u, hu, rfl⟩ : ∃ u : Nat, 1 ≤ u ∧ n = -(u : Int) := ⟨n.natAbs, by omega, by omega⟩
    rw [Lib.itoa_neg u hu]
    unfold valZ
    rw [ngB_45, if_pos rfl, show absL (45 :: Lib.decDigits u) = Lib.decDigits u from rfl, dec_val]
  · obtain ⟨u, rfl⟩ : ∃ u : Nat, n = (u : Int) := ⟨n.toNat, by omega⟩
    rw [Lib.itoa_nonneg, valZ_nat (dec_natB u), dec_val]
theorem itoa_inj {l : List UInt8} (h : wholeB l = true) (n : Int) : Lib.itoa n = l ↔ n = valZ l := by
  constructor
  · intro e; rw [← e, valZ_itoa]
  · rintro rfl; exact itoa_valZ h

/-- strconv.ParseUint of digits -/
theorem puM {M : Nat} (hM : M = 18446744073709551615) : ∀ (l : List UInt8) (a : Nat), l.all dgC = true → a ≤ M → Lib.parseUintM M a l = if valN a l ≤ M then .ok (valN a l) else .range
  | [], a, _, h => by rw [Lib.parseUintM, valN_nil, if_pos h]
  | c :: r, a, hd, h => by
    simp only [List.all_cons, Bool.and_eq_true] at hd
    have hc := dgC_yes.1 hd.1
    have hge := valN_ge r (10 * a + (c.toNat - 48))
    rw [Lib.parseUintM, if_pos hc]
    rw [valN_cons]
    by_cases h1 : 1844674407370955162 ≤ a
    · rw [if_pos h1, if_neg (by omega)]
    · rw [if_neg h1]
      by_cases h2 : M < a * 10 + (c.toNat - 48)
      · rw [if_pos h2, if_neg (by omega)]
      · rw [if_neg h2, puM hM r _ hd.2 (by omega), Nat.mul_comm a 10]
theorem pi64 {l : List UInt8} (h : wholeB l = true) : Lib.parseIntB 64 l = if -9223372036854775808 ≤ valZ l ∧ valZ l ≤ 9223372036854775807 then .ok (valZ l) else .range := by
  have e1 : (2 : Nat) ^ (64 - 1) = 9223372036854775808 := by decide
  have e2 : (2 : Nat) ^ 64 - 1 = 18446744073709551615 := by decide
  have h' := h
  unfold wholeB at h'
  simp only [Bool.and_eq_true] at h'
  have hd := natB_dig h'.1
  have hne := natB_ne h'.1
  cases l with
  | nil => exact absurd rfl hne
  | cons c r =>
    have hU : Lib.parseUintB 64 (absL (c :: r)) = if valN 0 (absL (c :: r)) ≤ 18446744073709551615 then .ok (valN 0 (absL (c :: r))) else .range := by
      unfold Lib.parseUintB
      rw [if_neg hne, e2, puM rfl _ _ hd (by omega)]
    by_cases h45 : c.toNat = 45
    · have hc : c = 45 := UInt8.toNat_inj.1 h45
      subst hc
      rw [Lib.parseIntB_minus, e1]
      rw [show absL (45 :: r) = r from rfl] at hU
      rw [hU, show valZ (45 :: r) = -(valN 0 r : Int) from rfl]
      by_cases h1 : valN 0 r ≤ 18446744073709551615
      · rw [if_pos h1]
        unfold Lib.signedC
        by_cases h2 : 9223372036854775808 < valN 0 r
        · rw [if_neg (by omega)]; simp [h2]
        · rw [if_pos (by omega)]; simp [h2]
      · rw [if_neg h1, if_neg (by omega)]; rfl
    · have hn : ngB (c :: r) = false := by rw [ngB_cons]; exact decide_eq_false h45
      have ha : absL (c :: r) = c :: r := by unfold absL; rw [hn]; rfl
      rw [ha] at hU hd
      have hd0 := hd
      simp only [List.all_cons, Bool.and_eq_true] at hd0
      have hc := dgC_yes.1 hd0.1
      rw [Lib.parseIntB_plain 64 c r (by omega) h45, e1, hU]
      have hv : valZ (c :: r) = valN 0 (c :: r) := by unfold valZ; rw [hn, ha]; rfl
      rw [hv]
      by_cases h1 : valN 0 (c :: r) ≤ 18446744073709551615
      · rw [if_pos h1]
        unfold Lib.signlessC
        by_cases h2 : 9223372036854775808 ≤ valN 0 (c :: r)
        · rw [if_neg (by omega)]; simp [h2]
        · rw [if_pos (by omega)]; simp; omega
      · rw [if_neg h1, if_neg (by omega)]; rfl
/-- what Int answers -/
def intE (l : List UInt8) (lo hi : Int) : Int := if hi < lo then 2 else if wholeB l = false then 6 else if lo ≤ valZ l ∧ valZ l ≤ hi then 0 else 7
def intV (l : List UInt8) (lo hi : Int) : Int := if intE l lo hi = 0 then valZ l else 0
theorem intE_arg {l : List UInt8} {lo hi : Int} (h : hi < lo) : intE l lo hi = 2 := by unfold intE; rw [if_pos h]
theorem intE_form {l : List UInt8} {lo hi : Int} (h : lo ≤ hi) (k : wholeB l = false) : intE l lo hi = 6 := by unfold intE; rw [if_neg (by omega), if_pos k]
theorem intE_whole {l : List UInt8} {lo hi : Int} (h : lo ≤ hi) (k : wholeB l = true) : intE l lo hi = if lo ≤ valZ l ∧ valZ l ≤ hi then 0 else 7 := by unfold intE; rw [if_neg (by omega), if_neg (by simp [k])]
theorem intV_ok {l : List UInt8} {lo hi : Int} (h : intE l lo hi = 0) : intV l lo hi = valZ l := by unfold intV; rw [if_pos h]
theorem intV_no {l : List UInt8} {lo hi : Int} (h : intE l lo hi ≠ 0) : intV l lo hi = 0 := by unfold intV; rw [if_neg h]
/-- a whole number of more than 20 bytes does not fit -/
theorem val_long {l : List UInt8} (h : wholeB l = true) (k : 20 < l.length) : ¬ (-9223372036854775808 ≤ valZ l ∧ valZ l ≤ 9223372036854775807) := by
  unfold wholeB at h
  simp only [Bool.and_eq_true] at h
  have hn := h.1
  have hl : 20 ≤ (absL l).length := by
    unfold absL
    split
    · rw [List.length_tail]; omega
    · omega
  have h1 := val_big (natB_dig hn) (natB_ne hn) (natB_head hn (by omega))
  have h2 : (10 : Nat) ^ 19 ≤ 10 ^ ((absL l).length - 1) := Nat.pow_le_pow_right (by decide) (by omega)
  have h3 : (10 : Nat) ^ 19 = 10000000000000000000 := by decide
  unfold valZ
  split <;> omega
end Go.Proofs.YtkklmljannclmaaDoor

namespace Go.Proofs.YtkklmljannclmaaDoor
open Go.RowKit Go.Sort

/-- A cell of a block that is not old: kept behind a name. -/
def farCell (d : Nat) (os : Array Obj) (W : World) (a : Addr) : Option Value := (grow (redrawn W d) os).cell? a
def farFrozen (d : Nat) (os : Array Obj) (W : World) (a : Addr) : Bool := (grow (redrawn W d) os).frozen? a
theorem below_grow (W : World) (d : Nat) (os : Array Obj) : Below W.heap.size W (grow (redrawn W d) os) := below_regrown W d os
theorem cell_grow (W : World) (d : Nat) (os : Array Obj) (b o : Nat) (s : Option Nat) :
    (grow (redrawn W d) os).cell? ⟨b, o, s⟩ = if b < W.heap.size then W.cell? ⟨b, o, s⟩ else farCell d os W ⟨b, o, s⟩ := by
  split
  · rename_i h; exact (below_regrown W d os).cell (p := ⟨b, o, s⟩) h
  · rfl
theorem frozen_grow (W : World) (d : Nat) (os : Array Obj) (b o : Nat) (s : Option Nat) :
    (grow (redrawn W d) os).frozen? ⟨b, o, s⟩ = if b < W.heap.size then W.frozen? ⟨b, o, s⟩ else farFrozen d os W ⟨b, o, s⟩ := by
  split
  · rename_i h; exact (below_regrown W d os).frozen (p := ⟨b, o, s⟩) h
  · rfl
theorem size_grow (W : World) (d : Nat) (os : Array Obj) : (grow (redrawn W d) os).heap.size = W.heap.size + os.size := by
  simp [grow, redrawn]
attribute [local go_sem] cell_grow frozen_grow size_grow

theorem Below.size_le {B : Nat} {w w' : World} (h : Below B w w') : w.heap.size ≤ w'.heap.size := h.size
theorem below_tr {a b c : World} (h : Below a.heap.size a b) (k : Below b.heap.size b c) : Below a.heap.size a c := h.trans (k.mono h.size)

/-- a post that speaks of worlds that only grew -/
theorem Calls.grown_of {P : Program} {f : FuncId} {args : Array Value} {w W : World} {v : Value} (hW : Below w.heap.size w W)
    (h : Calls P f args W fun e w' => e = .returned v ∧ Below W.heap.size W w') : Calls P f args W fun e w' => e = .returned v ∧ Below w.heap.size w w' :=
  h.mono fun _ _ ⟨he, hb⟩ => ⟨he, below_tr hW hb⟩

/-- A slice of words. -/
structure SlK (k : IntKind) (w : World) (a : Option Addr) (len : Nat) (ws : List Nat) : Prop where
  length : ws.length = len
  cells : len = 0 ∨ ∃ b off, a = some ⟨b, off, none⟩ ∧ ∀ j, j < len → w.cell? ⟨b, off + j, none⟩ = some (.int k (ws.getD j 0 : Nat))

theorem SlK.below {k : IntKind} {w w' : World} {a : Option Addr} {len : Nat} {ws : List Nat} (h : SlK k w a len ws) (hb : Below w.heap.size w w') : SlK k w' a len ws := by
  refine ⟨h.length, ?_⟩
  rcases h.cells with h0 | ⟨b, off, ha, hc⟩
  · exact .inl h0
  · refine .inr ⟨b, off, ha, fun j hj => ?_⟩
    have := hc j hj
    rw [hb.cell (p := ⟨b, off + j, none⟩) (World.block_lt_of_cell? _ _ this)]; exact this
theorem SlK.alloc {k : IntKind} {w : World} {a : Option Addr} {len : Nat} {ws : List Nat} (h : SlK k w a len ws) (o : Obj) : SlK k (w.alloc o) a len ws :=
  h.below ((Below.refl _ _).alloc (Nat.le_refl _) o)
theorem SlK.grow {k : IntKind} {w : World} {a : Option Addr} {len : Nat} {ws : List Nat} (h : SlK k w a len ws) (d : Nat) (os : Array Obj) : SlK k (grow (redrawn w d) os) a len ws :=
  h.below (below_regrown w d os)

end Go.Proofs.YtkklmljannclmaaDoor

namespace Go.Proofs.YtkklmljannclmaaDoor
open Go.RowKit Go.Sort Go.Joins
attribute [local go_sem] cell_grow frozen_grow size_grow

theorem below_box0 (w : World) (o : Obj) : Below w.heap.size w (w.alloc o) := (Below.refl _ _).alloc (Nat.le_refl _) o
theorem below_draw (w : World) (k : Nat) : Below w.heap.size w (w.drewN k) := ⟨rfl, rfl, rfl, Nat.le_refl _, fun _ _ => rfl⟩
theorem ret_i64 {a b : Int} (h : a = b) : Ending.returned (.int .i64 a) = .returned (.int .i64 b) := by rw [h]
theorem ret_bool {a b : Bool} (h : a = b) : Ending.returned (.bool a) = .returned (.bool b) := by rw [h]
theorem ret_two {a b c d : Int} {k l : IntKind} (h : a = b) (h2 : c = d) : Ending.returned (.tuple #[.int k a, .int l c]) = .returned (.tuple #[.int k b, .int l d]) := by rw [h, h2]
theorem ret_boolE {a b : Bool} {c d : Int} (h : a = b) (h2 : c = d) : Ending.returned (.tuple #[.bool a, .int .i64 c]) = .returned (.tuple #[.bool b, .int .i64 d]) := by rw [h, h2]
theorem bne0_true {x : Int} (h : x ≠ 0) : (x != 0) = true := by simpa using h
theorem keepN {W nxt : World} {C : World → Prop} (hC : Hid (∀ w', Below W.heap.size W w' → C w')) (h : Below W.heap.size W nxt) : Below W.heap.size W nxt ∧ C nxt := ⟨h, hC.out _ h⟩
theorem bel_alloc {W cur : World} {C : Prop} (h : Below W.heap.size W cur ∧ C) (o : Obj) : Below W.heap.size W (cur.alloc o) := h.1.alloc h.1.size o
theorem bel_call {W cur nxt : World} {C : Prop} (h : Below W.heap.size W cur ∧ C) (hb : Below cur.heap.size cur nxt) : Below W.heap.size W nxt := below_tr h.1 hb
theorem own_slice {w : World} {base len size : Nat} {e : TypeId} {v : Value} {xs : List Value} (h : w.ownsRow base e size v len xs) : ∃ a cap, v = .slice a len cap := by
  rcases ownsRow_forms h with ⟨rfl, rfl⟩ | ⟨g, cap, rfl⟩
  · exact ⟨_, _, rfl⟩
  · exact ⟨_, _, rfl⟩
theorem blk_lt {w : World} {k : Nat} {o : Obj} (h : w.heap[k]? = some o) : k < w.heap.size := by
  rcases Nat.lt_or_ge k w.heap.size with h' | h'
  · exact h'
  · rw [Array.getElem?_eq_none h'] at h; cases h
theorem own_below {w w' : World} {base : Nat} {e : TypeId} {size : Nat} {v : Value} {n : Nat} {xs : List Value} (h : w.ownsRow base e size v n xs) (hb : Below w.heap.size w w') : w'.ownsRow base e size v n xs := by
  obtain ⟨h1, h2⟩ := h
  refine ⟨h1, ?_⟩
  rcases h2 with h2 | ⟨g, cap, cur, hv, hg, hh, r⟩
  · exact Or.inl h2
  · exact Or.inr ⟨g, cap, cur, hv, hg, by rw [hb.block _ (blk_lt hh)]; exact hh, r⟩
theorem own_ne {w : World} {base size : Nat} {e t : TypeId} {v : Value} {n : Nat} {xs : List Value} {k : Nat} {cs : Array Value} {fz : Nat × Nat} (h : w.ownsRow base e size v n xs) (hk : w.heap[k]? = some (.cells cs t fz)) (hne : e ≠ t) : v.ownBlock ≠ some k := by
  rcases h.2 with ⟨h2, _⟩ | ⟨g, cap, cur, hv, hg, hh, _⟩
  · rw [h2]; intro e; cases e
  · rw [hv]
    intro e'
    have : g = k := by simpa [Value.ownBlock] using e'
    subst this
    rw [hh] at hk
    simp only [Option.some.injEq, Obj.cells.injEq] at hk
    exact hne hk.2.1
theorem setCell_block {w : World} {g i : Nat} {cs : Array Value} {t : TypeId} (h : w.heap[g]? = some (.cells cs t (0, 0))) (v : Value) : (w.setCell ⟨g, i, none⟩ v).heap[g]? = some (.cells (cs.setIfInBounds i v) t (0, 0)) := by
  have := block_setCell h (i := i) v; exact this
end Go.Proofs.YtkklmljannclmaaDoor

namespace Go.Proofs.YtkklmljannclmaaDoor
open Go.RowKit Go.Sort Go.Joins
attribute [local go_sem] cell_grow frozen_grow size_grow

/-- a byte of a list -/
def bt (l : List UInt8) (k : Nat) : UInt8 := l.getD k 0
theorem bt_at {l : List UInt8} {k : Nat} (h : k < l.length) : l[k]? = some (bt l k) := by
  unfold bt; rw [List.getD_eq_getElem?_getD, List.getElem?_eq_getElem h]; rfl
theorem len_of {s : ByteArray} {L : List UInt8} (h : s.data.toList = L) : L.length = s.size := by rw [← h, Array.length_toList]; rfl
theorem bt_get {s : ByteArray} {L : List UInt8} (hL : s.data.toList = L) {i : Nat} (h : i < s.size) : s[i].toNat = (bt L i).toNat := by
  subst hL
  unfold bt
  have h' : i < s.data.toList.length := by simpa using h
  rw [List.getD_eq_getElem?_getD, List.getElem?_eq_getElem h']
  rfl
theorem ba_of {a b : ByteArray} (h : a.data.toList = b.data.toList) : a = b := ByteArray.ext (Array.ext' h)
theorem ret_str {a b : ByteArray} (h : a.data.toList = b.data.toList) : Ending.returned (.string a) = .returned (.string b) := by rw [ba_of h]
theorem empty_nil {L : List UInt8} {s : ByteArray} (hL : s.data.toList = L) : (s.toList == []) = decide (L = []) := by
  rw [Lib.toList_data, hL, Bool.eq_iff_iff]; simp
theorem byte_lt (c : UInt8) : (c.toNat : Int) < 256 := by have := c.toNat_lt; omega
theorem wdig_ok (c : UInt8) (w : World) : Calls Tryd.prog 56 #[.int .u8 (c.toNat : Int)] w fun e w' => e = .returned (.bool (dgC c)) ∧ w = w' := by
  obtain ⟨r, hr⟩ : ∃ r, dgC c = r := ⟨_, rfl⟩
  rw [hr]
  unfold dgC at hr
  have H := Lib.hid hr
  clear hr
  go_enter Tryd.func56, Tryd.ntmps56
  go_wp2
  all_goals go_ret
  all_goals exact ⟨ret_bool (by rw [← H.out]; rw [Bool.eq_iff_iff]; simp; omega), rfl⟩
theorem wrdig_ok (c : UInt8) (w : World) : Calls Tryd.prog 59 #[.int .u8 (c.toNat : Int)] w fun e w' => e = .returned (.bool (dgC c)) ∧ w = w' := by
  obtain ⟨r, hr⟩ : ∃ r, dgC c = r := ⟨_, rfl⟩
  rw [hr]
  unfold dgC at hr
  have H := Lib.hid hr
  clear hr
  go_enter Tryd.func59, Tryd.ntmps59
  go_wp2
  all_goals go_ret
  all_goals exact ⟨ret_bool (by rw [← H.out]; rw [Bool.eq_iff_iff]; simp; omega), rfl⟩

theorem itoa_m1 {n : Int} (h0 : n < 0) : Lib.itoa n = 45 :: Lib.itoa (-n) := by
  obtain ⟨u, hu, rfl⟩ : ∃ u : Nat, 1 ≤ u ∧ n = -(u : Int) := ⟨n.natAbs, by omega, by omega⟩
  rw [Lib.itoa_neg u hu, Int.neg_neg, Lib.itoa_nonneg]
theorem dec_two {u : Nat} (h : 10 ≤ u) : Lib.decDigits u = Lib.decDigits (u / 10) ++ Lib.decDigits (u % 10) := by
  conv => lhs; rw [Lib.decDigits, dif_neg (by omega)]
  rw [Lib.decDigits_one (show u % 10 < 10 by omega)]
theorem itoa_p2 {n : Int} (h : 10 ≤ n) : Lib.itoa n = Lib.itoa (n.tdiv 10) ++ Lib.itoa (n.tmod 10) := by
  obtain ⟨u, rfl⟩ : ∃ u : Nat, n = (u : Int) := ⟨n.toNat, by omega⟩
  rw [show ((u : Int)).tdiv 10 = ((u / 10 : Nat) : Int) from rfl, show ((u : Int)).tmod 10 = ((u % 10 : Nat) : Int) from rfl, Lib.itoa_nonneg, Lib.itoa_nonneg, Lib.itoa_nonneg]
  exact dec_two (by omega)
theorem itoa_m2 {n : Int} (h : n ≤ -10) : Lib.itoa n = Lib.itoa (n.tdiv 10) ++ Lib.itoa (-(n.tmod 10)) := by
  obtain ⟨u, hu, rfl⟩ : ∃ u : Nat, 10 ≤ u ∧ n = -(u : Int) := ⟨n.natAbs, by omega, by omega⟩
  rw [Int.neg_tdiv, Int.neg_tmod, Int.neg_neg, show ((u : Int)).tdiv 10 = ((u / 10 : Nat) : Int) from rfl, show ((u : Int)).tmod 10 = ((u % 10 : Nat) : Int) from rfl, Lib.itoa_neg u (by omega), Lib.itoa_neg (u / 10) (by omega), Lib.itoa_nonneg, dec_two hu]
  rfl
theorem itoa_p1 {n : Int} (h0 : 0 ≤ n) (h1 : n < 10) : Lib.itoa n = [UInt8.ofNat (48 + n.toNat)] := by
  obtain ⟨u, rfl⟩ : ∃ u : Nat, n = (u : Int) := ⟨n.toNat, by omega⟩
  rw [Lib.itoa_nonneg, Lib.decDigits_one (by omega)]; rfl
theorem tdiv_neg {n : Int} (h : n ≤ -10) : n.tdiv 10 < 0 ∧ (n.tdiv 10).natAbs < n.natAbs ∧ -9 ≤ n.tmod 10 ∧ n.tmod 10 ≤ 0 := by
  obtain ⟨u, hu, rfl⟩ : ∃ u : Nat, 10 ≤ u ∧ n = -(u : Int) := ⟨n.natAbs, by omega, by omega⟩
  rw [Int.neg_tdiv, Int.neg_tmod, show ((u : Int)).tdiv 10 = ((u / 10 : Nat) : Int) from rfl, show ((u : Int)).tmod 10 = ((u % 10 : Nat) : Int) from rfl]
  omega
theorem tdiv_pos {n : Int} (h : 10 ≤ n) : 0 ≤ n.tdiv 10 ∧ n.tdiv 10 < n ∧ 0 ≤ n.tmod 10 ∧ n.tmod 10 ≤ 9 := by
  obtain ⟨u, rfl⟩ : ∃ u : Nat, n = (u : Int) := ⟨n.toNat, by omega⟩
  rw [show ((u : Int)).tdiv 10 = ((u / 10 : Nat) : Int) from rfl, show ((u : Int)).tmod 10 = ((u % 10 : Nat) : Int) from rfl]
  omega
theorem nDig_le : ∀ (k u : Nat), u < 10 ^ (k + 1) → Lib.nDigits u ≤ k + 1
  | 0, u, h => by rw [Lib.nDigits_small (by simpa using h)]; exact Nat.le_refl _
  | k + 1, u, h => by
    by_cases hu : u < 10
    · rw [Lib.nDigits_small hu]; omega
    · rw [Lib.nDigits_big hu]
      have := nDig_le k (u / 10) (by rw [Nat.div_lt_iff_lt_mul (by decide)]; rw [Nat.pow_succ] at h; exact h)
      omega
theorem itoa_20 {n : Int} (h0 : -9223372036854775808 ≤ n) (h1 : n ≤ 9223372036854775807) : (Lib.itoa n).length ≤ 20 := by
  rcases (show n < 0 ∨ 0 ≤ n by omega) with h | h
  · obtain ⟨u, hu, rfl⟩ : ∃ u : Nat, 1 ≤ u ∧ n = -(u : Int) := ⟨n.natAbs, by omega, by omega⟩
    rw [Lib.itoa_neg u hu, List.length_cons, Lib.decDigits_length]
    have := nDig_le 18 u (by have : (10 : Nat) ^ (18 + 1) = 10000000000000000000 := by decide
                             omega)
    omega
  · obtain ⟨u, rfl⟩ : ∃ u : Nat, n = (u : Int) := ⟨n.toNat, by omega⟩
    rw [Lib.itoa_nonneg, Lib.decDigits_length]
    have := nDig_le 18 u (by have : (10 : Nat) ^ (18 + 1) = 10000000000000000000 := by decide
                             omega)
    omega
set_option maxRecDepth 100000 in
set_option maxHeartbeats 400000 in
theorem rdig_ok (n : Int) (w : World) (h0 : -9223372036854775808 ≤ n) (h1 : n ≤ 9223372036854775807) : Calls Tryd.prog 30 #[.int .i64 n] w fun e w' => e = .returned (.string ⟨(Lib.itoa n).toArray⟩) ∧ Below w.heap.size w w' := by
  induction hN : (2 * n.natAbs + (if n < 0 then 1 else 0)) using Nat.strongRecOn generalizing n w with
  | ind N ih =>
    have IH : ∀ (m : Int), 2 * m.natAbs + (if m < 0 then 1 else 0) < N → -9223372036854775808 ≤ m → m ≤ 9223372036854775807 → ∀ W : World, Calls Tryd.prog 30 #[.int .i64 m] W fun e w' => e = .returned (.string ⟨(Lib.itoa m).toArray⟩) ∧ Below W.heap.size W w' := fun m h a b W => ih _ h m W a b rfl
    clear ih
    by_cases c1 : n < 0
    · rw [if_pos c1] at hN
      have d1 : decide (n < 0) = true := decide_eq_true c1
      by_cases c2 : -10 < n
      · have d2 : decide (-10 < n) = true := decide_eq_true c2
        have HI := Lib.hid (IH (-n) (by rw [if_neg (by omega)]; omega) (by omega) (by omega))
        have HE := Lib.hid (itoa_m1 c1)
        have hl := itoa_20 (n := -n) (by omega) (by omega)
        have hw : IntKind.i64.wrap (-n) = -n := IntWalk.i64_in _ (by omega)
        clear IH hN
        go_enter Tryd.func30, Tryd.ntmps30
        go_wp2_with (go_at_call 30; refine (HI.out _).mono ?_; rintro e w1 ⟨rfl, b1⟩)
        go_ret
        exact ⟨ret_str (by rw [HE.out]; simp), b1⟩
      · have d2 : decide (-10 < n) = false := decide_eq_false c2
        obtain ⟨g1, g2, g3, g4⟩ := tdiv_neg (n := n) (by omega)
        have HI := Lib.hid (IH (n.tdiv 10) (by rw [if_pos g1]; omega) (by omega) (by omega))
        have HJ := Lib.hid (IH (-(n.tmod 10)) (by rw [if_neg (by omega)]; omega) (by omega) (by omega))
        have HE := Lib.hid (itoa_m2 (n := n) (by omega))
        have hl1 := itoa_20 (n := n.tdiv 10) (by omega) (by omega)
        have hl2 := itoa_20 (n := -(n.tmod 10)) (by omega) (by omega)
        obtain ⟨q, hq⟩ : ∃ q, n.tdiv 10 = q := ⟨_, rfl⟩
        obtain ⟨r, hr⟩ : ∃ r, n.tmod 10 = r := ⟨_, rfl⟩
        rw [hq] at g1 g2 HI HE hl1
        rw [hr] at g3 g4 HJ HE hl2
        have hw1 : IntKind.i64.wrap (n.tdiv 10) = q := by rw [hq]; exact IntWalk.i64_in _ (by omega)
        have hw2 : IntKind.i64.wrap (n.tmod 10) = r := by rw [hr]; exact IntWalk.i64_in _ (by omega)
        have hw : IntKind.i64.wrap (-r) = -r := IntWalk.i64_in _ (by omega)
        clear IH hN
        go_enter Tryd.func30, Tryd.ntmps30
        go_wp2_with fail
        refine (HI.out _).mono ?_
        rintro e w1 ⟨rfl, b1⟩
        go_wp2_with fail
        refine (HJ.out _).mono ?_
        rintro e w2 ⟨rfl, b2⟩
        go_wp2_with fail
        go_ret
        exact ⟨ret_str (by rw [HE.out]; simp), below_tr b1 b2⟩
    · rw [if_neg c1] at hN
      have d1 : decide (n < 0) = false := decide_eq_false c1
      by_cases c2 : n < 10
      · have d2 : decide (n < 10) = true := decide_eq_true c2
        have HE := Lib.hid (itoa_p1 (n := n) (by omega) c2)
        have hw1 : IntKind.i64.wrap (48 + n) = 48 + n := IntWalk.i64_in _ (by omega)
        have hw2 : IntKind.u8.wrap (48 + n) = 48 + n := IntWalk.u8_in _ (by omega)
        clear IH hN
        go_enter Tryd.func30, Tryd.ntmps30
        go_wp2
        have hcv : (convert 55 9 (.slice (some ⟨w.heap.size, 0, none⟩) 1 1)).run Tryd.prog (w.alloc (.cells #[.int .u8 (48 + n)] 5)) = .ok (.string ⟨[UInt8.ofNat (48 + n.toNat)].toArray⟩) (w.alloc (.cells #[.int .u8 (48 + n)] 5)) := by
          refine run_convert_bytes_back _ _ _ 5 ⟨w.heap.size, 0, none⟩ 1 [UInt8.ofNat (48 + n.toNat)] Tryd.underlying55 Tryd.underlying5 Tryd.underlying9 ?_
          intro j hj
          have : j = 0 := by simpa using hj
          subst this
          have e1 : ((UInt8.ofNat (48 + n.toNat)).toNat : Int) = 48 + n := by rw [toNat_dg (by omega)]; omega
          rw [show ([UInt8.ofNat (48 + n.toNat)])[0] = UInt8.ofNat (48 + n.toNat) from rfl, e1]
          show (w.alloc (.cells #[.int .u8 (48 + n)] 5)).cell? ⟨w.heap.size, 0, none⟩ = _
          rw [cell_of_block (heap_alloc_new w _)]
          rfl
        rw [hcv]
        simp only [Result.andThen]
        rw [Oper.upon_value]
        go_wp2
        go_ret
        exact ⟨ret_str (by rw [HE.out]; simp), below_box0 w _⟩
      · have d2 : decide (n < 10) = false := decide_eq_false c2
        obtain ⟨g1, g2, g3, g4⟩ := tdiv_pos (n := n) (by omega)
        have HI := Lib.hid (IH (n.tdiv 10) (by rw [if_neg (by omega)]; omega) (by omega) (by omega))
        have HJ := Lib.hid (IH (n.tmod 10) (by rw [if_neg (by omega)]; omega) (by omega) (by omega))
        have HE := Lib.hid (itoa_p2 (n := n) (by omega))
        have hl1 := itoa_20 (n := n.tdiv 10) (by omega) (by omega)
        have hl2 := itoa_20 (n := n.tmod 10) (by omega) (by omega)
        obtain ⟨q, hq⟩ : ∃ q, n.tdiv 10 = q := ⟨_, rfl⟩
        obtain ⟨r, hr⟩ : ∃ r, n.tmod 10 = r := ⟨_, rfl⟩
        rw [hq] at g1 g2 HI HE hl1
        rw [hr] at g3 g4 HJ HE hl2
        have hw1 : IntKind.i64.wrap (n.tdiv 10) = q := by rw [hq]; exact IntWalk.i64_in _ (by omega)
        have hw2 : IntKind.i64.wrap (n.tmod 10) = r := by rw [hr]; exact IntWalk.i64_in _ (by omega)
        clear IH hN
        go_enter Tryd.func30, Tryd.ntmps30
        go_wp2_with fail
        refine (HI.out _).mono ?_
        rintro e w1 ⟨rfl, b1⟩
        go_wp2_with fail
        refine (HJ.out _).mono ?_
        rintro e w2 ⟨rfl, b2⟩
        go_wp2_with fail
        go_ret
        exact ⟨ret_str (by rw [HE.out]; simp), below_tr b1 b2⟩
end Go.Proofs.YtkklmljannclmaaDoor
