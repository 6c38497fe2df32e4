/- Refusals: what Parse answers. No program. | Words: texts, quotations and what they hold. No program. | Words: a line's fields. No program. | Words: Digits of the reference; which bytes are digits. -/
import Derived.Test.YtgbdhmdaefbglaaDoorPPZ4
import Derived.Lib.ReplaceLaws
import Derived.Test.YtgbdhmdaefbglaaDoorPPZ1
import Derived.Laws.IdiomStrings
namespace Go.Proofs.YtgbdhmdaefbglaaDoor

/-- the first line that is no rule -/
def badAt (LL : List (List UInt8)) : Nat := LL.findIdx (fun l => (lnP l).isNone)
/-- the rules of the first lines -/
def rlsL (LL : List (List UInt8)) (k : Nat) : List Rl := (LL.take k).filterMap lnP
theorem rls_step {LL : List (List UInt8)} {k : Nat} {x : Rl} (h : k < LL.length) (hx : lnP (LL.getD k []) = some x) : rlsL LL (k + 1) = rlsL LL k ++ [x] := by
  unfold rlsL
  rw [List.take_add_one, List.filterMap_append]
  congr 1
  rw [List.getD_eq_getElem?_getD, List.getElem?_eq_getElem h] at hx
  rw [List.getElem?_eq_getElem h]
  show List.filterMap lnP [LL[k]] = [x]
  rw [List.filterMap_cons, show lnP LL[k] = some x from hx]
  rfl
theorem bad_at {LL : List (List UInt8)} {k : Nat} (h : k < LL.length) (hp : ∀ j, j < k → lnP (LL.getD j []) ≠ none) (hb : lnP (LL.getD k []) = none) : badAt LL = k := by
  unfold badAt
  rw [List.findIdx_eq h]
  have e : ∀ j (hj : j < LL.length), LL.getD j [] = LL[j] := fun j hj => by rw [List.getD_eq_getElem?_getD, List.getElem?_eq_getElem hj]; rfl
  refine ⟨by rw [← e k h, hb]; rfl, fun j hj => ?_⟩
  have := hp j hj
  rw [e j (by omega)] at this
  cases hl : lnP LL[j] with
  | none => exact absurd hl this
  | some x => rfl
theorem bad_none {LL : List (List UInt8)} (hp : ∀ j, j < LL.length → lnP (LL.getD j []) ≠ none) : badAt LL = LL.length := by
  unfold badAt
  rw [List.findIdx_eq_length]
  intro x hx
  obtain ⟨j, hj⟩ := List.mem_iff_getElem?.1 hx
  have hlt : j < LL.length := by
    rcases Nat.lt_or_ge j LL.length with h' | h'
    · exact h'
    · rw [List.getElem?_eq_none h'] at hj; cases hj
  have := hp j hlt
  rw [List.getD_eq_getElem?_getD, hj] at this
  cases hl : lnP x with
  | none => exact absurd hl this
  | some y => rfl
/-- what Parse answers: rules, line, error -/
def ps5 (t : List UInt8) : List Rl × Int × Int :=
  if lnsE t ≠ 0 then ([], 0, lnsE t)
  else if badAt (lnsL t) < (lnsL t).length then ([], (badAt (lnsL t) : Int) + 1, 6)
  else if 50 < (rlsL (lnsL t) (lnsL t).length).length then ([], 0, 3)
  else if pE (rlsL (lnsL t) (lnsL t).length).length (fun j => (rlsL (lnsL t) (lnsL t).length).getD j rl0) ≠ 0 then ([], pI (rlsL (lnsL t) (lnsL t).length).length (fun j => (rlsL (lnsL t) (lnsL t).length).getD j rl0) + 1, pE (rlsL (lnsL t) (lnsL t).length).length (fun j => (rlsL (lnsL t) (lnsL t).length).getD j rl0))
  else (rlsL (lnsL t) (lnsL t).length, 0, 0)
section
variable {t : List UInt8}
theorem ps5_lines (h : lnsE t ≠ 0) : ps5 t = ([], 0, lnsE t) := by unfold ps5; rw [if_pos h]
theorem ps5_bad (h : lnsE t = 0) {k : Nat} (hk : k < (lnsL t).length) (hp : ∀ j, j < k → lnP ((lnsL t).getD j []) ≠ none) (hb : lnP ((lnsL t).getD k []) = none) : ps5 t = ([], (k : Int) + 1, 6) := by
  have := bad_at hk hp hb
  unfold ps5
  rw [if_neg (by simp [h]), this, if_pos hk]
theorem ps5_good (h : lnsE t = 0) (hp : ∀ j, j < (lnsL t).length → lnP ((lnsL t).getD j []) ≠ none) {Q : List Rl} (hQ : Q = rlsL (lnsL t) (lnsL t).length) :
    ps5 t = if 50 < Q.length then ([], 0, 3) else if pE Q.length (fun j => Q.getD j rl0) ≠ 0 then ([], pI Q.length (fun j => Q.getD j rl0) + 1, pE Q.length (fun j => Q.getD j rl0)) else (Q, 0, 0) := by
  unfold ps5
  rw [if_neg (by simp [h]), bad_none hp, if_neg (Nat.lt_irrefl _), ← hQ]
end
/-- the stages of a line -/
theorem wd_ways {P : List (List UInt8)} (hk : 0 ≤ knI (P.getD 0 [])) (hl : P.length = 2 ∨ P.length = 4 ∨ P.length = 6) :
    (numE (P.getD 1 []) ≠ 0 → wdP P = none) ∧
    (P.length = 2 → numE (P.getD 1 []) = 0 → wdP P = some (knI (P.getD 0 []), numV (P.getD 1 []), 0, 1)) ∧
    (2 < P.length → numE (P.getD 3 []) ≠ 0 ∨ numV (P.getD 3 []) = 0 ∨ P.getD 2 [] ≠ everyL → wdP P = none) ∧
    (P.length = 4 → numE (P.getD 1 []) = 0 → numE (P.getD 3 []) = 0 → numV (P.getD 3 []) ≠ 0 → P.getD 2 [] = everyL → wdP P = some (knI (P.getD 0 []), numV (P.getD 1 []), numV (P.getD 3 []), 0)) ∧
    (4 < P.length → numE (P.getD 5 []) ≠ 0 ∨ numV (P.getD 5 []) = 0 ∨ P.getD 4 [] ≠ timesL → wdP P = none) ∧
    (P.length = 6 → numE (P.getD 1 []) = 0 → numE (P.getD 3 []) = 0 → numV (P.getD 3 []) ≠ 0 → P.getD 2 [] = everyL → numE (P.getD 5 []) = 0 → numV (P.getD 5 []) ≠ 0 → P.getD 4 [] = timesL → wdP P = some (knI (P.getD 0 []), numV (P.getD 1 []), numV (P.getD 3 []), numV (P.getD 5 []))) := by
  rcases hl with hl | hl | hl
  · match P, hl with
    | [a, b], _ =>
      have h0 : 0 ≤ knI a := hk
      refine ⟨fun h => ?_, fun _ h => ?_, fun h => absurd h (by simp), fun h => absurd h (by simp), fun h => absurd h (by simp), fun h => absurd h (by simp)⟩
      · rw [wdP_2, if_neg (fun k => h k.2)]
      · rw [wdP_2, if_pos ⟨h0, h⟩]; rfl
  · match P, hl with
    | [a, b, c, d], _ =>
      have h0 : 0 ≤ knI a := hk
      refine ⟨fun h => ?_, fun h => absurd h (by simp), fun _ h => ?_, fun _ h1 h2 h3 h4 => ?_, fun h => absurd h (by simp), fun h => absurd h (by simp)⟩
      · rw [wdP_4, if_neg (fun k => h k.2.1)]
      · rw [wdP_4, if_neg]
        rintro ⟨_, _, h3, h4, h5⟩
        rcases h with h | h | h
        · exact h h3
        · exact h4 h
        · exact h h5
      · rw [wdP_4, if_pos ⟨h0, h1, h2, h3, h4⟩]; rfl
  · match P, hl with
    | [a, b, c, d, e, f], _ =>
      have h0 : 0 ≤ knI a := hk
      refine ⟨fun h => ?_, fun h => absurd h (by simp), fun _ h => ?_, fun h => absurd h (by simp), fun _ h => ?_, fun _ h1 h2 h3 h4 h5 h6 h7 => ?_⟩
      · rw [wdP_6, if_neg (fun k => h k.2.1)]
      · rw [wdP_6, if_neg]
        rintro ⟨_, _, h3, h4, h5, _⟩
        rcases h with h | h | h
        · exact h h3
        · exact h4 h
        · exact h h5
      · rw [wdP_6, if_neg]
        rintro ⟨_, _, _, _, _, h3, h4, h5⟩
        rcases h with h | h | h
        · exact h h3
        · exact h4 h
        · exact h h5
      · rw [wdP_6, if_pos ⟨h0, h1, h2, h3, h4, h5, h6, h7⟩]; rfl
end Go.Proofs.YtgbdhmdaefbglaaDoor

namespace Go.Proofs.YtgbdhmdaefbglaaDoor

/-- bytes that are written: from a least one to 126 -/
def prB (least : Nat) (l : List UInt8) : Bool := l.all (fun c => decide (least ≤ c.toNat) && decide (c.toNat ≤ 126))
/-- a text for people -/
def txB (l : List UInt8) : Bool := prB 32 l && decide (l.length ≤ 200)
theorem txB_yes {l : List UInt8} : txB l = true ↔ prB 32 l = true ∧ l.length ≤ 200 := by unfold txB; simp
/-- each quotation mark twice -/
def dbl : List UInt8 → List UInt8
  | [] => []
  | c :: r => if c = 34 then 34 :: 34 :: dbl r else c :: dbl r
theorem dbl_nil : dbl [] = [] := by rw [dbl]
theorem dbl_q (r : List UInt8) : dbl (34 :: r) = 34 :: 34 :: dbl r := by rw [dbl, if_pos rfl]
theorem dbl_c {c : UInt8} (r : List UInt8) (h : c ≠ 34) : dbl (c :: r) = c :: dbl r := by rw [dbl, if_neg h]
theorem dbl_append : ∀ (a b : List UInt8), dbl (a ++ b) = dbl a ++ dbl b
  | [], _ => by rw [dbl_nil]; rfl
  | c :: a, b => by
    by_cases h : c = 34
    · subst h; rw [List.cons_append, dbl_q, dbl_q, dbl_append a b]; rfl
    · rw [List.cons_append, dbl_c _ h, dbl_c _ h, dbl_append a b]; rfl
theorem dbl_len : ∀ l : List UInt8, l.length ≤ (dbl l).length ∧ (dbl l).length ≤ 2 * l.length
  | [] => by rw [dbl_nil]; simp
  | c :: a => by
    have := dbl_len a
    by_cases h : c = 34
    · subst h; rw [dbl_q]; simp only [List.length_cons]; omega
    · rw [dbl_c _ h]; simp only [List.length_cons]; omega
theorem dbl_count : ∀ l : List UInt8, (dbl l).length = l.length + l.count 34
  | [] => by rw [dbl_nil]; rfl
  | c :: a => by
    have := dbl_count a
    by_cases h : c = 34
    · subst h; rw [dbl_q, List.count_cons_self]; simp only [List.length_cons]; omega
    · rw [dbl_c _ h, List.count_cons_of_ne h]; simp only [List.length_cons]; omega
/-- marks that stand twice, once; none: one stands alone -/
def und : List UInt8 → Option (List UInt8)
  | [] => some []
  | [c] => if c = 34 then none else some [c]
  | c :: d :: r => if c = 34 then (if d = 34 then (und r).map (34 :: ·) else none) else (und (d :: r)).map (c :: ·)
theorem und_dbl : ∀ l : List UInt8, und (dbl l) = some l
  | [] => by rw [dbl_nil, und]
  | c :: r => by
    have ih := und_dbl r
    by_cases h : c = 34
    · subst h; rw [dbl_q, und, if_pos rfl, if_pos rfl, ih]; rfl
    · rw [dbl_c _ h]
      cases hd : dbl r with
      | nil =>
        rw [hd] at ih
        rw [und, if_neg h]
        rw [und] at ih
        cases ih; rfl
      | cons x y =>
        rw [und, if_neg h, ← hd, ih]; rfl
theorem dbl_und : ∀ (n : Nat) (l u : List UInt8), l.length ≤ n → und l = some u → dbl u = l
  | n, [], u, _, h => by rw [und] at h; cases h; exact dbl_nil
  | n, [c], u, _, h => by
    rw [und] at h
    by_cases e : c = 34
    · rw [if_pos e] at h; cases h
    · rw [if_neg e] at h; cases h; rw [dbl_c _ e, dbl_nil]
  | n + 1, c :: d :: r, u, hn, h => by
    simp only [List.length_cons] at hn
    rw [und] at h
    by_cases e : c = 34
    · subst e
      rw [if_pos rfl] at h
      by_cases k : d = 34
      · subst k
        rw [if_pos rfl] at h
        cases hr : und r with
        | none => rw [hr] at h; cases h
        | some v =>
          rw [hr] at h
          cases h
          show dbl (34 :: v) = _
          rw [dbl_q, dbl_und n r v (by omega) hr]
      · rw [if_neg k] at h; cases h
    · rw [if_neg e] at h
      cases hr : und (d :: r) with
      | none => rw [hr] at h; cases h
      | some v =>
        rw [hr] at h
        cases h
        show dbl (c :: v) = _
        rw [dbl_c _ e, dbl_und n (d :: r) v (by simp only [List.length_cons]; omega) hr]
  | 0, c :: d :: r, u, hn, h => by simp at hn
theorem dbl_inj {a b : List UInt8} (h : dbl a = dbl b) : a = b := by
  have h1 := und_dbl a
  rw [h, und_dbl b] at h1
  cases h1; rfl
/-- the quotation of a text -/
def qtL (l : List UInt8) : List UInt8 := 34 :: (dbl l ++ [34])
theorem qtL_inj {a b : List UInt8} (h : qtL a = qtL b) : a = b := by
  unfold qtL at h
  exact dbl_inj (List.append_cancel_right (List.cons.inj h).2)
/-- is there a quotation, but for the bytes within? -/
def quB (l : List UInt8) : Bool := decide (2 ≤ l.length) && (decide (l.head? = some 34) && decide (l.getLast? = some 34))
/-- what is within -/
def inn (l : List UInt8) : List UInt8 := l.tail.dropLast
theorem inn_qt (u : List UInt8) : inn (34 :: (u ++ [34])) = u := by unfold inn; simp
theorem quB_qt (u : List UInt8) : quB (34 :: (u ++ [34])) = true := by
  unfold quB
  simp only [List.length_cons, List.length_append, List.head?_cons, Bool.and_eq_true, decide_eq_true_eq]
  refine ⟨by omega, trivial, ?_⟩
  rw [← List.cons_append, List.getLast?_append]; simp
theorem quB_of {l : List UInt8} (h : quB l = true) : l = 34 :: (inn l ++ [34]) := by
  unfold quB at h
  simp only [Bool.and_eq_true, decide_eq_true_eq] at h
  obtain ⟨h1, h2, h3⟩ := h
  cases l with
  | nil => simp at h1
  | cons c r =>
    have hc : c = 34 := by simpa using h2
    subst hc
    have hr : r ≠ [] := by intro e; subst e; simp at h1
    unfold inn
    rw [List.tail_cons]
    congr 1
    have h4 : r.getLast hr = 34 := by
      rw [List.getLast?_eq_some_getLast (by simp), List.getLast_cons hr] at h3
      exact Option.some.inj h3
    conv => lhs; rw [← List.dropLast_concat_getLast hr]
    rw [h4]
/-- what Unquote answers: the text; none: ErrForm -/
def unq (l : List UInt8) : Option (List UInt8) := if quB l then (und (inn l)).filter txB else none
theorem unq_qt {u : List UInt8} (h : txB u = true) : unq (qtL u) = some u := by
  unfold unq qtL
  rw [quB_qt, if_pos rfl, inn_qt, und_dbl, Option.filter_some, if_pos h]
theorem unq_some {l u : List UInt8} (h : unq l = some u) : txB u = true ∧ qtL u = l := by
  unfold unq at h
  cases hq : quB l
  · rw [hq] at h; cases h
  · rw [hq, if_pos rfl] at h
    cases hu : und (inn l) with
    | none => rw [hu] at h; cases h
    | some v =>
      rw [hu, Option.filter_some] at h
      cases ht : txB v
      · rw [ht] at h; cases h
      · rw [ht, if_pos rfl] at h
        cases h
        exact ⟨ht, by unfold qtL; rw [dbl_und _ _ _ (Nat.le_refl _) hu]; exact (quB_of hq).symm⟩
theorem unq_none {l : List UInt8} (h : unq l = none) (u : List UInt8) (hu : txB u = true) : qtL u ≠ l := by
  rintro rfl
  rw [unq_qt hu] at h; cases h

/-- ReplaceAll of two marks by one, from the left -/
def rpq : List UInt8 → List UInt8
  | [] => []
  | [c] => [c]
  | c :: d :: r => if c = 34 ∧ d = 34 then 34 :: rpq r else c :: rpq (d :: r)
theorem rpq_dbl : ∀ l : List UInt8, rpq (dbl l) = l
  | [] => by rw [dbl_nil, rpq]
  | c :: r => by
    have ih := rpq_dbl r
    by_cases h : c = 34
    · subst h; rw [dbl_q, rpq, if_pos ⟨rfl, rfl⟩, ih]
    · rw [dbl_c _ h]
      cases hd : dbl r with
      | nil =>
        rw [hd, rpq] at ih
        rw [rpq, ih]
      | cons x y =>
        rw [rpq, if_neg (fun k => h k.1), ← hd, ih]
theorem rpq_miss {l : List UInt8} : Lib.index l [34, 34] = -1 → rpq l = l := by
  induction l with
  | nil => intro _; rw [rpq]
  | cons c r ih =>
    intro h
    rw [Lib.index] at h
    split at h
    · cases h
    · rename_i hp
      have hr : Lib.index r [34, 34] = -1 := by
        split at h
        · rename_i h1; simpa using h1
        · have := Lib.index_ge r [34, 34]; rename_i h1; simp at h1; omega
      cases r with
      | nil => rw [rpq]
      | cons d t =>
        rw [rpq, if_neg, ih hr]
        rintro ⟨rfl, rfl⟩
        simp [List.isPrefixOf] at hp
theorem rpq_hit {l : List UInt8} : ∀ {i : Nat}, Lib.index l [34, 34] = (i : Int) → rpq l = l.take i ++ [34] ++ rpq (l.drop (i + 2)) := by
  induction l with
  | nil => intro i h; rw [Lib.index] at h; simp at h
  | cons c r ih =>
    intro i h
    rw [Lib.index] at h
    split at h
    · rename_i hp
      obtain rfl : i = 0 := by omega
      cases r with
      | nil => simp [List.isPrefixOf] at hp
      | cons d t =>
        simp [List.isPrefixOf] at hp
        obtain ⟨rfl, rfl⟩ := hp
        rw [rpq, if_pos ⟨rfl, rfl⟩]
        rfl
    · rename_i hp
      split at h
      · omega
      · obtain ⟨j, hj⟩ : ∃ j : Nat, Lib.index r [34, 34] = (j : Int) := ⟨(Lib.index r [34, 34]).toNat, by have := Lib.index_ge r [34, 34]; rename_i h1; simp at h1; omega⟩
        obtain rfl : i = j + 1 := by omega
        have := ih hj
        cases r with
        | nil => rw [Lib.index] at hj; simp at hj
        | cons d t =>
          rw [rpq, if_neg, this]
          · rw [List.take_succ_cons, show j + 1 + 2 = (j + 2) + 1 by omega, List.drop_succ_cons]; simp
          · rintro ⟨rfl, rfl⟩
            simp [List.isPrefixOf] at hp
theorem rpqK (n : Nat) : ∀ l : List UInt8, l.length ≤ n → Lib.replaceK [34, 34] [34] (Lib.count l [34, 34]) l = rpq l := by
  induction n with
  | zero =>
    intro l h
    have : l = [] := List.length_eq_zero_iff.1 (by omega)
    subst this
    have hx : Lib.index [] [34, 34] = -1 := rfl
    rw [Lib.count_miss hx, Lib.replaceK, rpq]
  | succ n ih =>
    intro l h
    by_cases hx : Lib.index l [34, 34] = -1
    · rw [Lib.count_miss hx, Lib.replaceK, rpq_miss hx]
    · obtain ⟨i, hi⟩ : ∃ i : Nat, Lib.index l [34, 34] = (i : Int) := ⟨(Lib.index l [34, 34]).toNat, by have := Lib.index_ge l [34, 34]; omega⟩
      have hr := Lib.index_room l [34, 34] (by omega)
      rw [Lib.count_hit (by simp) hi, Nat.add_comm 1, Lib.replaceK_hit _ _ _ _ _ hi, rpq_hit hi]
      rw [show ([34, 34] : List UInt8).length = 2 from rfl]
      rw [ih _ (by rw [List.length_drop]; rw [show ([34, 34] : List UInt8).length = 2 from rfl] at hr; omega)]
theorem rpq_all (l : List UInt8) : Lib.replaceAll l [34, 34] [34] = rpq l := by
  unfold Lib.replaceAll Lib.replace
  rw [if_neg (by decide)]
  unfold Lib.replaceNum
  rw [if_pos (.inl (by decide))]
  exact rpqK _ _ (Nat.le_refl _)
/-- ReplaceAll of one mark by two -/
theorem dblK (n : Nat) : ∀ l : List UInt8, l.length ≤ n → Lib.replaceK [34] [34, 34] (Lib.count l [34]) l = dbl l := by
  induction n with
  | zero =>
    intro l h
    have : l = [] := List.length_eq_zero_iff.1 (by omega)
    subst this
    have hx : Lib.index [] [34] = -1 := rfl
    rw [Lib.count_miss hx, Lib.replaceK, dbl_nil]
  | succ n ih =>
    intro l h
    by_cases hm : (34 : UInt8) ∈ l
    · obtain ⟨a, r, rfl, ha⟩ := splK_one.cut_first hm
      have hix := splK_one.ix_cut (r := r) ha
      have hd : (a ++ 34 :: r).drop (a.length + 1) = r := by rw [List.drop_append]; simp
      rw [Lib.count_hit (by simp) hix, Nat.add_comm 1, Lib.replaceK_hit _ _ _ _ _ hix]
      rw [show ([34] : List UInt8).length = 1 from rfl, hd, ih r (by simp at h; omega)]
      rw [dbl_append, dbl_q]
      have : dbl a = a := dbl_none ha
      rw [this]; simp
    · have hx : Lib.index l [34] = -1 := splK_one.ix_none hm
      rw [Lib.count_miss hx, Lib.replaceK, dbl_none hm]
where
  dbl_none : ∀ {l : List UInt8}, (34 : UInt8) ∉ l → dbl l = l
    | [], _ => dbl_nil
    | c :: r, h => by
      have h1 : c ≠ 34 := fun e => h (by rw [e]; exact List.mem_cons_self ..)
      rw [dbl_c _ h1, dbl_none (fun k => h (List.mem_cons_of_mem _ k))]
theorem dbl_all (l : List UInt8) : Lib.replaceAll l [34] [34, 34] = dbl l := by
  unfold Lib.replaceAll Lib.replace
  rw [if_neg (by decide)]
  unfold Lib.replaceNum
  rw [if_pos (.inl (by decide))]
  exact dblK _ _ (Nat.le_refl _)
end Go.Proofs.YtgbdhmdaefbglaaDoor

namespace Go.Proofs.YtgbdhmdaefbglaaDoor

/-- how far a quotation goes, behind its first mark -/
def qend : List UInt8 → Nat
  | [] => 0
  | [_] => 1
  | c :: d :: r => if c = 34 then (if d = 34 then 2 + qend r else 1) else 1 + qend (d :: r)
theorem qend_q (r : List UInt8) : qend (34 :: 34 :: r) = 2 + qend r := by rw [qend, if_pos rfl, if_pos rfl]
theorem qend_e {d : UInt8} (r : List UInt8) (h : d ≠ 34) : qend (34 :: d :: r) = 1 := by rw [qend, if_pos rfl, if_neg h]
theorem qend_c {c : UInt8} (r : List UInt8) (h : c ≠ 34) : qend (c :: r) = 1 + qend r := by
  cases r with
  | nil => rfl
  | cons d t => rw [qend, if_neg h]
theorem qend_le (n : Nat) : ∀ l : List UInt8, l.length ≤ n → qend l ≤ l.length := by
  induction n with
  | zero =>
    intro l h
    obtain rfl : l = [] := List.length_eq_zero_iff.1 (by omega)
    exact Nat.le_refl _
  | succ n ih =>
    intro l h
    match l, h with
    | [], _ => exact Nat.le_refl _
    | [c], _ => exact Nat.le_refl _
    | c :: d :: r, h =>
      simp only [List.length_cons] at h ⊢
      by_cases hc : c = 34
      · subst hc
        by_cases hd : d = 34
        · subst hd; rw [qend_q]; have := ih r (by omega); omega
        · rw [qend_e r hd]; omega
      · rw [qend_c _ hc]; have := ih (d :: r) (by simp only [List.length_cons]; omega); simp only [List.length_cons] at this; omega
/-- how far a field goes -/
def uend (l : List UInt8) : Nat := (l.takeWhile (fun c => decide (c ≠ 32))).length
theorem uend_nil : uend [] = 0 := rfl
theorem uend_b (r : List UInt8) : uend (32 :: r) = 0 := rfl
theorem uend_c {c : UInt8} (r : List UInt8) (h : c ≠ 32) : uend (c :: r) = 1 + uend r := by
  unfold uend
  rw [List.takeWhile_cons, if_pos (by simpa using h), List.length_cons, Nat.add_comm]
theorem uend_le : ∀ l : List UInt8, uend l ≤ l.length
  | [] => Nat.le_refl _
  | c :: r => by
    have := uend_le r
    by_cases h : c = 32
    · subst h; rw [uend_b]; simp
    · rw [uend_c r h, List.length_cons]; omega
def fend (l : List UInt8) : Nat := if l.head? = some 34 then 1 + qend l.tail else uend l
theorem fend_q (r : List UInt8) : fend (34 :: r) = 1 + qend r := by unfold fend; rw [if_pos (by rfl)]; rfl
theorem fend_u {c : UInt8} (r : List UInt8) (h : c ≠ 34) : fend (c :: r) = uend (c :: r) := by
  unfold fend; rw [if_neg]; simpa using h
theorem fend_le (l : List UInt8) : fend l ≤ l.length := by
  cases l with
  | nil => exact Nat.le_refl _
  | cons c r =>
    by_cases h : c = 34
    · subst h; rw [fend_q, List.length_cons]; have := qend_le _ r (Nat.le_refl _); omega
    · rw [fend_u r h]; exact uend_le _
/-- is that an unquoted field? -/
def rtB (l : List UInt8) : Bool := decide (l ≠ []) && (l.all (fun c => decide (c ≠ 32) && decide (c ≠ 34)) && txB l)
theorem rtB_yes {l : List UInt8} : rtB l = true ↔ l ≠ [] ∧ ((32 : UInt8) ∉ l ∧ (34 : UInt8) ∉ l) ∧ txB l = true := by
  unfold rtB
  simp only [Bool.and_eq_true, decide_eq_true_eq, List.all_eq_true]
  refine and_congr_right fun _ => and_congr_left fun _ => ⟨fun h => ⟨fun hm => (h _ hm).1 rfl, fun hm => (h _ hm).2 rfl⟩, fun h x hx => ⟨fun e => h.1 (e ▸ hx), fun e => h.2 (e ▸ hx)⟩⟩
/-- a field: is it quoted, and its text -/
abbrev Fl := Bool × List UInt8
/-- the first field that is written -/
def fld1 (t : List UInt8) : Option Fl := if t.head? = some 34 then (unq t).map (fun u => (true, u)) else if rtB t then some (false, t) else none
/-- is that a field? -/
def flB (x : Fl) : Bool := if x.1 then txB x.2 else rtB x.2
theorem fld1_some {t : List UInt8} {x : Fl} (h : fld1 t = some x) : flB x = true ∧ (x.1 = false → x.2 = t) ∧ (x.1 = true → qtL x.2 = t) := by
  unfold fld1 at h
  split at h
  · cases hu : unq t with
    | none => rw [hu] at h; cases h
    | some u =>
      rw [hu] at h
      cases h
      obtain ⟨h1, h2⟩ := unq_some hu
      exact ⟨h1, by simp, fun _ => h2⟩
  · split at h
    · rename_i hr
      cases h
      exact ⟨hr, fun _ => rfl, by simp⟩
    · cases h
/-- the fields of a line; none: ErrForm (the number: at least the line's length) -/
def splF : Nat → List UInt8 → Option (List Fl)
  | _, [] => some []
  | 0, _ :: _ => none
  | n + 1, c :: r =>
    match fld1 ((c :: r).take (fend (c :: r))) with
    | none => none
    | some x =>
      match (c :: r).drop (fend (c :: r)) with
      | [] => some [x]
      | [_] => none
      | d :: e :: t => if d = 32 then (splF n (e :: t)).map (x :: ·) else none
def splE (l : List UInt8) : Int := if 4096 < l.length then 3 else match splF l.length l with
  | none => 6
  | some f => if 64 < f.length then 3 else 0
def splR (l : List UInt8) : List Fl := if splE l = 0 then (splF l.length l).getD [] else []
theorem splF_nil (n : Nat) : splF n [] = some [] := by cases n <;> rfl
theorem fend_pos {c : UInt8} {r : List UInt8} (h : fld1 ((c :: r).take (fend (c :: r))) ≠ none) : 1 ≤ fend (c :: r) := by
  rcases Nat.eq_zero_or_pos (fend (c :: r)) with h0 | h0
  · rw [h0] at h
    exact absurd rfl h
  · exact h0
theorem splF_more : ∀ (n : Nat) (l : List UInt8), l.length ≤ n → ∀ m, l.length ≤ m → splF n l = splF m l
  | n, [], _, m, _ => by rw [splF_nil, splF_nil]
  | n + 1, c :: r, hn, m, hm => by
    cases m with
    | zero => simp at hm
    | succ m =>
      rw [splF, splF]
      cases hx : fld1 ((c :: r).take (fend (c :: r))) with
      | none => rfl
      | some x =>
        have hp := fend_pos (c := c) (r := r) (by rw [hx]; simp)
        dsimp only
        cases hd : (c :: r).drop (fend (c :: r)) with
        | nil => rfl
        | cons d t =>
          cases t with
          | nil => rfl
          | cons e t =>
            have hl := congrArg List.length hd
            simp only [List.length_drop, List.length_cons] at hl hn hm
            dsimp only
            rw [splF_more n (e :: t) (by simp only [List.length_cons]; omega) m (by simp only [List.length_cons]; omega)]
  | 0, c :: r, hn, m, hm => by simp at hn
/-- a line of unquoted fields -/
theorem uend_take {p : List UInt8} (h : (32 : UInt8) ∉ p) (r : List UInt8) : uend (p ++ 32 :: r) = p.length := by
  induction p with
  | nil => rfl
  | cons c p ih =>
    have hc : c ≠ 32 := fun e => h (by rw [e]; exact List.mem_cons_self ..)
    rw [List.cons_append, uend_c _ hc, ih (fun k => h (List.mem_cons_of_mem _ k)), List.length_cons, Nat.add_comm]
theorem uend_all {p : List UInt8} (h : (32 : UInt8) ∉ p) : uend p = p.length := by
  induction p with
  | nil => rfl
  | cons c p ih =>
    have hc : c ≠ 32 := fun e => h (by rw [e]; exact List.mem_cons_self ..)
    rw [uend_c _ hc, ih (fun k => h (List.mem_cons_of_mem _ k)), List.length_cons, Nat.add_comm]
theorem fld1_rt {t : List UInt8} (h : rtB t = true) : fld1 t = some (false, t) := by
  have h' := rtB_yes.1 h
  unfold fld1
  rw [if_neg, if_pos h]
  intro e
  cases t with
  | nil => cases e
  | cons c r => exact h'.2.1.2 (by rw [List.head?_cons] at e; cases e; exact List.mem_cons_self ..)
theorem splF_jn : ∀ (P : List (List UInt8)) (n : Nat), P ≠ [] → (∀ p, p ∈ P → rtB p = true) → (jn 32 P).length ≤ n → splF n (jn 32 P) = some (P.map fun p => (false, p))
  | [], _, h, _, _ => absurd rfl h
  | [p], n, _, hp, hn => by
    have hr := hp p (List.mem_cons_self ..)
    have h' := rtB_yes.1 hr
    show splF n p = _
    have hn' : p.length ≤ n := hn
    cases p with
    | nil => exact absurd rfl h'.1
    | cons c r =>
      have hc : c ≠ 34 := fun e => h'.2.1.2 (by rw [e]; exact List.mem_cons_self ..)
      have hf : fend (c :: r) = (c :: r).length := by rw [fend_u r hc, uend_all h'.2.1.1]
      cases n with
      | zero => simp at hn'
      | succ n =>
        rw [splF, hf, List.take_length, List.drop_length, fld1_rt hr]
        rfl
  | p :: q :: P, n, _, hp, hn => by
    have hr := hp p (List.mem_cons_self ..)
    have h' := rtB_yes.1 hr
    have ih := splF_jn (q :: P) (n - 1) (by simp) (fun a ha => hp a (List.mem_cons_of_mem _ ha))
    rw [jn_cons (by simp)] at hn ⊢
    rw [List.length_append, List.length_cons] at hn
    have hj : jn 32 (q :: P) ≠ [] := by
      have hq := (rtB_yes.1 (hp q (by simp))).1
      cases P with
      | nil => exact hq
      | cons a b => rw [jn_cons (by simp)]; simp
    have ih := ih (by omega)
    generalize jn 32 (q :: P) = J at ih hj hn
    cases p with
    | nil => exact absurd rfl h'.1
    | cons c r =>
      have hc : c ≠ 34 := fun e => h'.2.1.2 (by rw [e]; exact List.mem_cons_self ..)
      have hf : fend (c :: r ++ 32 :: J) = (c :: r).length := by
        rw [List.cons_append, fend_u _ hc, ← List.cons_append, uend_take h'.2.1.1]
      cases n with
      | zero => simp at hn
      | succ n =>
        rw [List.cons_append, splF, ← List.cons_append, hf, List.take_left' rfl, List.drop_left' rfl, fld1_rt hr]
        dsimp only
        cases J with
        | nil => exact absurd rfl hj
        | cons e t =>
          dsimp only
          rw [if_pos rfl]
          rw [Nat.add_sub_cancel] at ih
          rw [ih]
          rfl
/-- a line whose fields are all unquoted is these, joined -/
theorem splF_un : ∀ (n : Nat) (l : List UInt8) (fs : List Fl), splF n l = some fs → (∀ x, x ∈ fs → x.1 = false) → l = jn 32 (fs.map (·.2)) ∧ (∀ x, x ∈ fs → rtB x.2 = true) ∧ (l ≠ [] → fs ≠ [])
  | n, [], fs, h, _ => by
    rw [splF_nil] at h
    cases h
    exact ⟨rfl, by simp, fun h => absurd rfl h⟩
  | 0, c :: r, fs, h, _ => by cases h
  | n + 1, c :: r, fs, h, hu => by
    rw [splF] at h
    cases hx : fld1 ((c :: r).take (fend (c :: r))) with
    | none => rw [hx] at h; cases h
    | some x =>
      obtain ⟨f1, f2, _⟩ := fld1_some hx
      rw [hx] at h
      dsimp only at h
      have htd := List.take_append_drop (fend (c :: r)) (c :: r)
      have key : x.1 = false → rtB x.2 = true ∧ x.2 = (c :: r).take (fend (c :: r)) := fun e => by
        unfold flB at f1
        rw [e] at f1
        exact ⟨f1, f2 e⟩
      cases hd : (c :: r).drop (fend (c :: r)) with
      | nil =>
        rw [hd] at h htd
        cases h
        obtain ⟨k1, k2⟩ := key (hu x (by simp))
        refine ⟨?_, fun y hy => by rw [List.mem_singleton.1 hy]; exact k1, fun _ => by simp⟩
        show _ = x.2
        rw [List.append_nil] at htd
        rw [k2]; exact htd.symm
      | cons d t =>
        cases t with
        | nil => rw [hd] at h; cases h
        | cons e t =>
          rw [hd] at h htd
          dsimp only at h
          by_cases h32 : d = 32
          · subst h32
            rw [if_pos rfl] at h
            cases hs : splF n (e :: t) with
            | none => rw [hs] at h; cases h
            | some gs =>
              rw [hs] at h
              cases h
              obtain ⟨k1, k2⟩ := key (hu x (by simp))
              obtain ⟨i1, i2, i3⟩ := splF_un n (e :: t) gs hs (fun y hy => hu y (List.mem_cons_of_mem _ hy))
              refine ⟨?_, fun y hy => ?_, fun _ => by simp⟩
              · rw [List.map_cons, jn_cons (by simpa using i3 (by simp)), ← i1, k2]
                exact htd.symm
              · rcases List.mem_cons.1 hy with rfl | hy
                · exact k1
                · exact i2 y hy
          · rw [if_neg h32] at h; cases h
end Go.Proofs.YtgbdhmdaefbglaaDoor

namespace Go.Proofs.YtgbdhmdaefbglaaDoor
open Go.RowKit Go.Sort Go.Joins
attribute [local go_sem] cell_grow frozen_grow size_grow

/-- a byte of a list -/
def bt (l : List UInt8) (k : Nat) : UInt8 := l.getD k 0
theorem bt_at {l : List UInt8} {k : Nat} (h : k < l.length) : l[k]? = some (bt l k) := by
  unfold bt; rw [List.getD_eq_getElem?_getD, List.getElem?_eq_getElem h]; rfl
theorem len_of {s : ByteArray} {L : List UInt8} (h : s.data.toList = L) : L.length = s.size := by rw [← h, Array.length_toList]; rfl
theorem bt_get {s : ByteArray} {L : List UInt8} (hL : s.data.toList = L) {i : Nat} (h : i < s.size) : s[i].toNat = (bt L i).toNat := by
  subst hL
  unfold bt
  have h' : i < s.data.toList.length := by simpa using h
  rw [List.getD_eq_getElem?_getD, List.getElem?_eq_getElem h']
  rfl
theorem ba_of {a b : ByteArray} (h : a.data.toList = b.data.toList) : a = b := ByteArray.ext (Array.ext' h)
theorem ret_str {a b : ByteArray} (h : a.data.toList = b.data.toList) : Ending.returned (.string a) = .returned (.string b) := by rw [ba_of h]
theorem empty_nil {L : List UInt8} {s : ByteArray} (hL : s.data.toList = L) : (s.toList == []) = decide (L = []) := by
  rw [Lib.toList_data, hL, Bool.eq_iff_iff]; simp
theorem byte_lt (c : UInt8) : (c.toNat : Int) < 256 := by have := c.toNat_lt; omega
theorem wdig_ok (c : UInt8) (w : World) : Calls Tryd.prog 42 #[.int .u8 (c.toNat : Int)] w fun e w' => e = .returned (.bool (dgC c)) ∧ w = w' := by
  obtain ⟨r, hr⟩ : ∃ r, dgC c = r := ⟨_, rfl⟩
  rw [hr]
  unfold dgC at hr
  have H := Lib.hid hr
  clear hr
  go_enter Tryd.func42, Tryd.ntmps42
  go_wp2
  all_goals go_ret
  all_goals exact ⟨ret_bool (by rw [← H.out]; rw [Bool.eq_iff_iff]; simp; omega), rfl⟩
theorem wrdig_ok (c : UInt8) (w : World) : Calls Tryd.prog 80 #[.int .u8 (c.toNat : Int)] w fun e w' => e = .returned (.bool (dgC c)) ∧ w = w' := by
  obtain ⟨r, hr⟩ : ∃ r, dgC c = r := ⟨_, rfl⟩
  rw [hr]
  unfold dgC at hr
  have H := Lib.hid hr
  clear hr
  go_enter Tryd.func80, Tryd.ntmps80
  go_wp2
  all_goals go_ret
  all_goals exact ⟨ret_bool (by rw [← H.out]; rw [Bool.eq_iff_iff]; simp; omega), rfl⟩

theorem itoa_m1 {n : Int} (h0 : n < 0) : Lib.itoa n = 45 :: Lib.itoa (-n) := by
  obtain ⟨u, hu, rfl⟩ : ∃ u : Nat, 1 ≤ u ∧ n = -(u : Int) := ⟨n.natAbs, by omega, by omega⟩
  rw [Lib.itoa_neg u hu, Int.neg_neg, Lib.itoa_nonneg]
theorem dec_two {u : Nat} (h : 10 ≤ u) : Lib.decDigits u = Lib.decDigits (u / 10) ++ Lib.decDigits (u % 10) := by
  conv => lhs; rw [Lib.decDigits, dif_neg (by omega)]
  rw [Lib.decDigits_one (show u % 10 < 10 by omega)]
theorem itoa_p2 {n : Int} (h : 10 ≤ n) : Lib.itoa n = Lib.itoa (n.tdiv 10) ++ Lib.itoa (n.tmod 10) := by
  obtain ⟨u, rfl⟩ : ∃ u : Nat, n = (u : Int) := ⟨n.toNat, by omega⟩
  rw [show ((u : Int)).tdiv 10 = ((u / 10 : Nat) : Int) from rfl, show ((u : Int)).tmod 10 = ((u % 10 : Nat) : Int) from rfl, Lib.itoa_nonneg, Lib.itoa_nonneg, Lib.itoa_nonneg]
  exact dec_two (by omega)
theorem itoa_m2 {n : Int} (h : n ≤ -10) : Lib.itoa n = Lib.itoa (n.tdiv 10) ++ Lib.itoa (-(n.tmod 10)) := by
  obtain ⟨u, hu, rfl⟩ : ∃ u : Nat, 10 ≤ u ∧ n = -(u : Int) := ⟨n.natAbs, by omega, by omega⟩
  rw [Int.neg_tdiv, Int.neg_tmod, Int.neg_neg, show ((u : Int)).tdiv 10 = ((u / 10 : Nat) : Int) from rfl, show ((u : Int)).tmod 10 = ((u % 10 : Nat) : Int) from rfl, Lib.itoa_neg u (by omega), Lib.itoa_neg (u / 10) (by omega), Lib.itoa_nonneg, dec_two hu]
  rfl
theorem itoa_p1 {n : Int} (h0 : 0 ≤ n) (h1 : n < 10) : Lib.itoa n = [UInt8.ofNat (48 + n.toNat)] := by
  obtain ⟨u, rfl⟩ : ∃ u : Nat, n = (u : Int) := ⟨n.toNat, by omega⟩
  rw [Lib.itoa_nonneg, Lib.decDigits_one (by omega)]; rfl
theorem tdiv_neg {n : Int} (h : n ≤ -10) : n.tdiv 10 < 0 ∧ (n.tdiv 10).natAbs < n.natAbs ∧ -9 ≤ n.tmod 10 ∧ n.tmod 10 ≤ 0 := by
  obtain ⟨u, hu, rfl⟩ : ∃ u : Nat, 10 ≤ u ∧ n = -(u : Int) := ⟨n.natAbs, by omega, by omega⟩
  rw [Int.neg_tdiv, Int.neg_tmod, show ((u : Int)).tdiv 10 = ((u / 10 : Nat) : Int) from rfl, show ((u : Int)).tmod 10 = ((u % 10 : Nat) : Int) from rfl]
  omega
theorem tdiv_pos {n : Int} (h : 10 ≤ n) : 0 ≤ n.tdiv 10 ∧ n.tdiv 10 < n ∧ 0 ≤ n.tmod 10 ∧ n.tmod 10 ≤ 9 := by
  obtain ⟨u, rfl⟩ : ∃ u : Nat, n = (u : Int) := ⟨n.toNat, by omega⟩
  rw [show ((u : Int)).tdiv 10 = ((u / 10 : Nat) : Int) from rfl, show ((u : Int)).tmod 10 = ((u % 10 : Nat) : Int) from rfl]
  omega
theorem nDig_le : ∀ (k u : Nat), u < 10 ^ (k + 1) → Lib.nDigits u ≤ k + 1
  | 0, u, h => by rw [Lib.nDigits_small (by simpa using h)]; exact Nat.le_refl _
  | k + 1, u, h => by
    by_cases hu : u < 10
    · rw [Lib.nDigits_small hu]; omega
    · rw [Lib.nDigits_big hu]
      have := nDig_le k (u / 10) (by rw [Nat.div_lt_iff_lt_mul (by decide)]; rw [Nat.pow_succ] at h; exact h)
      omega
theorem itoa_20 {n : Int} (h0 : -9223372036854775808 ≤ n) (h1 : n ≤ 9223372036854775807) : (Lib.itoa n).length ≤ 20 := by
  rcases (show n < 0 ∨ 0 ≤ n by omega) with h | h
  · obtain ⟨u, hu, rfl⟩ : ∃ u : Nat, 1 ≤ u ∧ n = -(u : Int) := ⟨n.natAbs, by omega, by omega⟩
    rw [Lib.itoa_neg u hu, List.length_cons, Lib.decDigits_length]
    have := nDig_le 18 u (by have : (10 : Nat) ^ (18 + 1) = 10000000000000000000 := by decide
                             omega)
    omega
  · obtain ⟨u, rfl⟩ : ∃ u : Nat, n = (u : Int) := ⟨n.toNat, by omega⟩
    rw [Lib.itoa_nonneg, Lib.decDigits_length]
    have := nDig_le 18 u (by have : (10 : Nat) ^ (18 + 1) = 10000000000000000000 := by decide
                             omega)
    omega
set_option maxRecDepth 100000 in
set_option maxHeartbeats 400000 in
theorem rdig_ok (n : Int) (w : World) (h0 : -9223372036854775808 ≤ n) (h1 : n ≤ 9223372036854775807) : Calls Tryd.prog 23 #[.int .i64 n] w fun e w' => e = .returned (.string ⟨(Lib.itoa n).toArray⟩) ∧ Below w.heap.size w w' := by
  induction hN : (2 * n.natAbs + (if n < 0 then 1 else 0)) using Nat.strongRecOn generalizing n w with
  | ind N ih =>
    have IH : ∀ (m : Int), 2 * m.natAbs + (if m < 0 then 1 else 0) < N → -9223372036854775808 ≤ m → m ≤ 9223372036854775807 → ∀ W : World, Calls Tryd.prog 23 #[.int .i64 m] W fun e w' => e = .returned (.string ⟨(Lib.itoa m).toArray⟩) ∧ Below W.heap.size W w' := fun m h a b W => ih _ h m W a b rfl
    clear ih
    by_cases c1 : n < 0
    · rw [if_pos c1] at hN
      have d1 : decide (n < 0) = true := decide_eq_true c1
      by_cases c2 : -10 < n
      · have d2 : decide (-10 < n) = true := decide_eq_true c2
        have HI := Lib.hid (IH (-n) (by rw [if_neg (by omega)]; omega) (by omega) (by omega))
        have HE := Lib.hid (itoa_m1 c1)
        have hl := itoa_20 (n := -n) (by omega) (by omega)
        have hw : IntKind.i64.wrap (-n) = -n := IntWalk.i64_in _ (by omega)
        clear IH hN
        go_enter Tryd.func23, Tryd.ntmps23
        go_wp2_with (go_at_call 23; refine (HI.out _).mono ?_; rintro e w1 ⟨rfl, b1⟩)
        go_ret
        exact ⟨ret_str (by rw [HE.out]; simp), b1⟩
      · have d2 : decide (-10 < n) = false := decide_eq_false c2
        obtain ⟨g1, g2, g3, g4⟩ := tdiv_neg (n := n) (by omega)
        have HI := Lib.hid (IH (n.tdiv 10) (by rw [if_pos g1]; omega) (by omega) (by omega))
        have HJ := Lib.hid (IH (-(n.tmod 10)) (by rw [if_neg (by omega)]; omega) (by omega) (by omega))
        have HE := Lib.hid (itoa_m2 (n := n) (by omega))
        have hl1 := itoa_20 (n := n.tdiv 10) (by omega) (by omega)
        have hl2 := itoa_20 (n := -(n.tmod 10)) (by omega) (by omega)
        obtain ⟨q, hq⟩ : ∃ q, n.tdiv 10 = q := ⟨_, rfl⟩
        obtain ⟨r, hr⟩ : ∃ r, n.tmod 10 = r := ⟨_, rfl⟩
        rw [hq] at g1 g2 HI HE hl1
        rw [hr] at g3 g4 HJ HE hl2
        have hw1 : IntKind.i64.wrap (n.tdiv 10) = q := by rw [hq]; exact IntWalk.i64_in _ (by omega)
        have hw2 : IntKind.i64.wrap (n.tmod 10) = r := by rw [hr]; exact IntWalk.i64_in _ (by omega)
        have hw : IntKind.i64.wrap (-r) = -r := IntWalk.i64_in _ (by omega)
        clear IH hN
        go_enter Tryd.func23, Tryd.ntmps23
        go_wp2_with fail
        refine (HI.out _).mono ?_
        rintro e w1 ⟨rfl, b1⟩
        go_wp2_with fail
        refine (HJ.out _).mono ?_
        rintro e w2 ⟨rfl, b2⟩
        go_wp2_with fail
        go_ret
        exact ⟨ret_str (by rw [HE.out]; simp), below_tr b1 b2⟩
    · rw [if_neg c1] at hN
      have d1 : decide (n < 0) = false := decide_eq_false c1
      by_cases c2 : n < 10
      · have d2 : decide (n < 10) = true := decide_eq_true c2
        have HE := Lib.hid (itoa_p1 (n := n) (by omega) c2)
        have hw1 : IntKind.i64.wrap (48 + n) = 48 + n := IntWalk.i64_in _ (by omega)
        have hw2 : IntKind.u8.wrap (48 + n) = 48 + n := IntWalk.u8_in _ (by omega)
        clear IH hN
        go_enter Tryd.func23, Tryd.ntmps23
        go_wp2
        have hcv : (convert 41 9 (.slice (some ⟨w.heap.size, 0, none⟩) 1 1)).run Tryd.prog (w.alloc (.cells #[.int .u8 (48 + n)] 5)) = .ok (.string ⟨[UInt8.ofNat (48 + n.toNat)].toArray⟩) (w.alloc (.cells #[.int .u8 (48 + n)] 5)) := by
          refine run_convert_bytes_back _ _ _ 5 ⟨w.heap.size, 0, none⟩ 1 [UInt8.ofNat (48 + n.toNat)] Tryd.underlying41 Tryd.underlying5 Tryd.underlying9 ?_
          intro j hj
          have : j = 0 := by simpa using hj
          subst this
          have e1 : ((UInt8.ofNat (48 + n.toNat)).toNat : Int) = 48 + n := by rw [toNat_dg (by omega)]; omega
          rw [show ([UInt8.ofNat (48 + n.toNat)])[0] = UInt8.ofNat (48 + n.toNat) from rfl, e1]
          show (w.alloc (.cells #[.int .u8 (48 + n)] 5)).cell? ⟨w.heap.size, 0, none⟩ = _
          rw [cell_of_block (heap_alloc_new w _)]
          rfl
        rw [hcv]
        simp only [Result.andThen]
        rw [Oper.upon_value]
        go_wp2
        go_ret
        exact ⟨ret_str (by rw [HE.out]; simp), below_box0 w _⟩
      · have d2 : decide (n < 10) = false := decide_eq_false c2
        obtain ⟨g1, g2, g3, g4⟩ := tdiv_pos (n := n) (by omega)
        have HI := Lib.hid (IH (n.tdiv 10) (by rw [if_neg (by omega)]; omega) (by omega) (by omega))
        have HJ := Lib.hid (IH (n.tmod 10) (by rw [if_neg (by omega)]; omega) (by omega) (by omega))
        have HE := Lib.hid (itoa_p2 (n := n) (by omega))
        have hl1 := itoa_20 (n := n.tdiv 10) (by omega) (by omega)
        have hl2 := itoa_20 (n := n.tmod 10) (by omega) (by omega)
        obtain ⟨q, hq⟩ : ∃ q, n.tdiv 10 = q := ⟨_, rfl⟩
        obtain ⟨r, hr⟩ : ∃ r, n.tmod 10 = r := ⟨_, rfl⟩
        rw [hq] at g1 g2 HI HE hl1
        rw [hr] at g3 g4 HJ HE hl2
        have hw1 : IntKind.i64.wrap (n.tdiv 10) = q := by rw [hq]; exact IntWalk.i64_in _ (by omega)
        have hw2 : IntKind.i64.wrap (n.tmod 10) = r := by rw [hr]; exact IntWalk.i64_in _ (by omega)
        clear IH hN
        go_enter Tryd.func23, Tryd.ntmps23
        go_wp2_with fail
        refine (HI.out _).mono ?_
        rintro e w1 ⟨rfl, b1⟩
        go_wp2_with fail
        refine (HJ.out _).mono ?_
        rintro e w2 ⟨rfl, b2⟩
        go_wp2_with fail
        go_ret
        exact ⟨ret_str (by rw [HE.out]; simp), below_tr b1 b2⟩
end Go.Proofs.YtgbdhmdaefbglaaDoor
